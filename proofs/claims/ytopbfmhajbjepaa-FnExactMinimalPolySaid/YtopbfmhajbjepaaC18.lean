/- Contracts: what a map is; the least polynomial of a map. -/
import Derived.Test.YtopbfmhajbjepaaC17
import Derived.Test.YtopbfmhajbjepaaC2
namespace Go.Proofs.Ytopbfmhajbjepaa
open Go
set_option linter.unusedSimpArgs false
set_option linter.unusedVariables false

/-- Whether a list is a map. -/
def mapB (l : List Int) : Bool := decide (1 ≤ (l.length : Int) ∧ (l.length : Int) ≤ 16) && l.all fun x => decide (0 ≤ x ∧ x ≤ ((2 ^ l.length - 1 : Nat) : Int))
theorem mapB_true {l : List Int} (h : mapB l = true) : ∃ m, l = zs m ∧ MapOK m := by
  unfold mapB at h
  simp only [Bool.and_eq_true, decide_eq_true_eq] at h
  obtain ⟨h1, h2⟩ := h
  obtain ⟨m, rfl, hm⟩ := nats_of h2
  rw [zs_length] at *
  exact ⟨m, rfl, by omega, fun i hi => by have := hm i hi; have := Nat.two_pow_pos m.length; omega⟩
@[go_sem] theorem sl_alloc {H : AH} : aalloc TA H 22 = some (.ptr H.size 0, H.push (.cells 1 false [.nilsl])) := rfl
theorem sl_st {H : AH} {x v : AV} (hv : v.one = true) : astore1 TA (H.push (.cells 1 false [x])) 22 (.ptr H.size 0) v = some (.undef, H.push (.cells 1 false [v])) := by
  rw [astore_cell (t := 22) rfl rfl rfl (AH.push_same _ _) (by simp) hv]
  simp [push_put]

theorem closure_map_ok (x : Int) (l : List Int) (v : AV) (b : Nat) (H : AH) (ro : Bool) (hb : H.blk b = .cells 1 ro [v]) (hv : IntsAt H v l) (hl : l.length ≤ 16) :
    E 201 [.int .i64 x, .ptr b 0] H (Is (.bool (!decide (0 ≤ x ∧ x ≤ ((2 ^ l.length - 1 : Nat) : Int)))) H) := by
  have hld : ∀ H', Ext H H' → aload1 TA H' 22 (.ptr b 0) = some (v, H') := fun H' x => aload_cell (t := 22) rfl rfl (x.cells hb) rfl
  refine Ev.enterK (fn := Try.f201) rfl Try.func201 rfl (by kernel_rfl) (by simp [Try.ntmps201]) ?_
  (simp (disch := first | exact dsch | kernel_rfl) only [go_sem, ↓reduceIte, Nat.reduceEqDiff, Nat.reduceLT, Nat.reduceAdd, reduceCtorEq, Int.reduceToNat, Try.ntmps201, Try.results201, hld, hv.len] <;> repeat' ((first | (refine AOK_is (by exact in_ok _ _ _ _) ?_; intro Hc hxc) | (refine AOK_is (by exact whole_ok _ (by omega) _) ?_; intro Hc hxc) | refine AK.drawT (by kernel_rfl) ?_ | ((first | refine ABK_mk ?_ ?_ | refine AGK_mk ?_ ?_) <;> intro hb <;> (try simp only [decide_eq_true_eq, decide_eq_false_iff_not, Bool.not_eq_true', Bool.not_eq_false', Bool.not_not] at hb) <;> (try (exfalso; omega)) <;> (try subst hb) <;> try simp only [hb, decide_true, decide_false])) <;> try simp (disch := first | exact dsch | kernel_rfl) only [go_sem, ↓reduceIte, Nat.reduceEqDiff, Nat.reduceLT, Nat.reduceAdd, reduceCtorEq, Int.reduceToNat, Try.ntmps201, Try.results201, hld, hv.len]))
  exact Is.mk rfl (by exact xt)

def RowsZ (H : AH) (v : AV) (ls : List (List Int)) : Prop := ∃ vs, SliceAt H v 1 vs ∧ vs.length = ls.length ∧ ∀ k < ls.length, IntsAt H (vs.getD k .undef) (ls.getD k [])
theorem RowsZ.one {H : AH} {a : AV} {l : List Int} (ha : IntsAt H a l) : RowsZ (H.push (.cells 1 false [a])) (.sl H.size 0 1) [l] := by
  refine ⟨[a], .inr ⟨_, 0, 1, false, _, rfl, AH.push_same _ _, by simp, rfl⟩, rfl, fun k hk => ?_⟩
  have : k = 0 := by simp at hk; omega
  subst this
  exact SliceAt.ext ha (Ext.push _ _)

set_option maxRecDepth 10000 in
theorem isMap_ok (ls : List (List Int)) (v : AV) (H : AH) (hv : RowsZ H v ls) (hl : ls.length < 1000) (hl2 : ∀ l ∈ ls, l.length < 9223372036854775807) : E 131 [v] H (Is (.bool (ls.all mapB)) H) := by
  obtain ⟨vs, hvs, hlen, hrow⟩ := hv
  refine Ev.enterK (fn := Try.f131) rfl Try.func131 rfl (by kernel_rfl) (by simp [Try.ntmps131]) ?_
  (simp (disch := first | exact dsch | kernel_rfl) only [go_sem, ↓reduceIte, Nat.reduceEqDiff, Nat.reduceLT, Nat.reduceAdd, reduceCtorEq, Int.reduceToNat, Try.ntmps131, Try.results131, hvs.rlen] <;> repeat' ((first | (refine AOK_is (by exact isCount_ok _ _) ?_; intro Hc hxc) | refine AK.drawT (by kernel_rfl) ?_ | ((first | refine ABK_mk ?_ ?_ | refine AGK_mk ?_ ?_) <;> intro hb <;> (try simp only [decide_eq_true_eq, decide_eq_false_iff_not, Bool.not_eq_true', Bool.not_eq_false', Bool.not_not] at hb) <;> (try (exfalso; omega)) <;> (try subst hb) <;> try simp only [hb, decide_true, decide_false])) <;> try simp (disch := first | exact dsch | kernel_rfl) only [go_sem, ↓reduceIte, Nat.reduceEqDiff, Nat.reduceLT, Nat.reduceAdd, reduceCtorEq, Int.reduceToNat, Try.ntmps131, Try.results131, hvs.rlen]))
  refine (AK.countx 7 [2, 4, 7, 8, 9, 10, 11, 12, 13, 14, 15, 16, 17, 18, 19, 20] (by kernel_rfl) 0 vs.length (fun i tm H' => ∀ j < i, mapB (ls.getD j []) = true) (by rfl) (by omega) (fun j h => by omega) ?_)
  rintro i tm H' K h1 h2 fr hq hx ha hK
  by_cases hi : i < vs.length
  · have hi' : (i : Int) < (vs.length : Int) := by omega
    have hr := SliceAt.ext (hrow i (by omega)) hx
    have hlm : (ls.getD i []).length < 9223372036854775807 := hl2 _ (by rw [List.getD, List.getElem?_eq_getElem (by omega)]; exact List.getElem_mem _)
    have hone := hr.isOne
    generalize hu : vs.getD i .undef = u at *
    generalize hL : ls.getD i [] = L at *
    have hr2 : IntsAt H' u L := hr
    (simp (disch := first | exact dsch | kernel_rfl) only [go_sem, ↓reduceIte, Nat.reduceEqDiff, Nat.reduceLT, Nat.reduceAdd, reduceCtorEq, Int.reduceToNat, Try.ntmps131, Try.results131, fr, hq, hvs.rlen, hvs.rix, hvs.rld, hu, hi', sl_st hone, hr2.len] <;> repeat' ((first | (refine AOK_is (by exact isCount_ok _ _) ?_; intro Hc hxc) | refine AK.drawT (by kernel_rfl) ?_ | ((first | refine ABK_mk ?_ ?_ | refine AGK_mk ?_ ?_) <;> intro hb <;> (try simp only [decide_eq_true_eq, decide_eq_false_iff_not, Bool.not_eq_true', Bool.not_eq_false', Bool.not_not] at hb) <;> (try (exfalso; omega)) <;> (try subst hb) <;> try simp only [hb, decide_true, decide_false])) <;> try simp (disch := first | exact dsch | kernel_rfl) only [go_sem, ↓reduceIte, Nat.reduceEqDiff, Nat.reduceLT, Nat.reduceAdd, reduceCtorEq, Int.reduceToNat, Try.ntmps131, Try.results131, fr, hq, hvs.rlen, hvs.rix, hvs.rld, hu, hi', sl_st hone, hr2.len]))
    · have hct := hb
      have xh : Ext (H'.push (.cells 1 false [u])) Hc := by exact xt
      refine AOK_is (containsFunc_ok L u 201 [.ptr H'.size 0] (fun x => !decide (0 ≤ x ∧ x ≤ ((2 ^ L.length - 1 : Nat) : Int))) _ (SliceAt.ext hr (by exact xt)) hlm fun x _ H1 x1 => closure_map_ok x L u H'.size H1 false ((xh.trans x1).cells (AH.push_same _ _)) (SliceAt.ext hr (by exact xt)) (by omega)) ?_
      intro H1 x1
      have hany : (L.any fun x => !decide (0 ≤ x ∧ x ≤ ((2 ^ L.length - 1 : Nat) : Int))) = !mapB L := by
        unfold mapB
        rw [decide_eq_true hct, Bool.true_and, List.not_all_eq_any_not]
      rw [hany]
      (simp (disch := first | exact dsch | kernel_rfl) only [go_sem, ↓reduceIte, Nat.reduceEqDiff, Nat.reduceLT, Nat.reduceAdd, reduceCtorEq, Int.reduceToNat, Try.ntmps131, Try.results131, fr, hq] <;> repeat' ((first | (refine AOK_is (by exact isCount_ok _ _) ?_; intro Hc hxc) | refine AK.drawT (by kernel_rfl) ?_ | ((first | refine ABK_mk ?_ ?_ | refine AGK_mk ?_ ?_) <;> intro hb <;> (try simp only [decide_eq_true_eq, decide_eq_false_iff_not, Bool.not_eq_true', Bool.not_eq_false', Bool.not_not] at hb) <;> (try (exfalso; omega)) <;> (try subst hb) <;> try simp only [hb, decide_true, decide_false])) <;> try simp (disch := first | exact dsch | kernel_rfl) only [go_sem, ↓reduceIte, Nat.reduceEqDiff, Nat.reduceLT, Nat.reduceAdd, reduceCtorEq, Int.reduceToNat, Try.ntmps131, Try.results131, fr, hq]))
      · refine hK _ _ (by omega) (by rfl) (by exact xt) fun j hj => ?_
        by_cases e : j = i
        · subst e; rw [hL]; exact hb
        · exact ha j (by omega)
      · refine Is.mk ?_ (by exact xt)
        have : ls.all mapB = false := by
          rw [← Bool.not_eq_true, List.all_eq_true]
          intro hall
          have := hall L (by rw [← hL, List.getD, List.getElem?_eq_getElem (show i < ls.length by omega)]; exact List.getElem_mem _)
          rw [this] at hb; cases hb
        rw [this]
    · refine Is.mk ?_ (by exact xt)
      have : ls.all mapB = false := by
        rw [← Bool.not_eq_true, List.all_eq_true]
        intro hall
        have := hall L (by rw [← hL, List.getD, List.getElem?_eq_getElem (show i < ls.length by omega)]; exact List.getElem_mem _)
        unfold mapB at this
        rw [Bool.and_eq_true, decide_eq_true_eq] at this
        exact hb this.1
      rw [this]
  · have hi' : ¬ (i : Int) < (vs.length : Int) := by omega
    (simp (disch := first | exact dsch | kernel_rfl) only [go_sem, ↓reduceIte, Nat.reduceEqDiff, Nat.reduceLT, Nat.reduceAdd, reduceCtorEq, Int.reduceToNat, Try.ntmps131, Try.results131, fr, hq, hi'] <;> repeat' ((first | (refine AOK_is (by exact isCount_ok _ _) ?_; intro Hc hxc) | refine AK.drawT (by kernel_rfl) ?_ | ((first | refine ABK_mk ?_ ?_ | refine AGK_mk ?_ ?_) <;> intro hb <;> (try simp only [decide_eq_true_eq, decide_eq_false_iff_not, Bool.not_eq_true', Bool.not_eq_false', Bool.not_not] at hb) <;> (try (exfalso; omega)) <;> (try subst hb) <;> try simp only [hb, decide_true, decide_false])) <;> try simp (disch := first | exact dsch | kernel_rfl) only [go_sem, ↓reduceIte, Nat.reduceEqDiff, Nat.reduceLT, Nat.reduceAdd, reduceCtorEq, Int.reduceToNat, Try.ntmps131, Try.results131, fr, hq, hi']))
    refine Is.mk ?_ (by exact xt)
    have : ls.all mapB = true := by
      rw [List.all_eq_true]
      intro L hL
      obtain ⟨j, hj, rfl⟩ := List.getElem_of_mem hL
      have := ha j (by omega)
      simpa [List.getD, hj] using this
    rw [this]

theorem prGood_ok (l : List Int) (v : AV) (H : AH) (hv : IntsAt H v l) (hl : l.length < 9223372036854775807) : E 126 [v] H (Is (.bool (mapB l)) H) := by
  refine Ev.enterK (fn := Try.f126) rfl Try.func126 rfl (by kernel_rfl) (by simp [Try.ntmps126]) ?_
  (simp (disch := first | exact dsch | kernel_rfl) only [go_sem, ↓reduceIte, Nat.reduceEqDiff, Nat.reduceLT, Nat.reduceAdd, reduceCtorEq, Int.reduceToNat, Try.ntmps126, Try.results126, hv.len] <;> repeat' ((first | (refine AOK_is (by exact grSize_ok _ _) ?_; intro Hc hxc) | (refine AOK_is (by exact l1All_ok _ _ _ _ _ (by first | assumption | (refine SliceAt.ext (by assumption) ?_; exact xt)) (by omega)) ?_; intro Hc hxc) | refine AK.drawT (by kernel_rfl) ?_ | ((first | refine ABK_mk ?_ ?_ | refine AGK_mk ?_ ?_) <;> intro hb <;> (try simp only [decide_eq_true_eq, decide_eq_false_iff_not, Bool.not_eq_true', Bool.not_eq_false', Bool.not_not] at hb) <;> (try (exfalso; omega)) <;> (try subst hb) <;> try simp only [hb, decide_true, decide_false])) <;> try simp (disch := first | exact dsch | kernel_rfl) only [go_sem, ↓reduceIte, Nat.reduceEqDiff, Nat.reduceLT, Nat.reduceAdd, reduceCtorEq, Int.reduceToNat, Try.ntmps126, Try.results126, hv.len]))
  · refine Is.mk ?_ (by exact xt)
    unfold mapB
    rw [decide_eq_true hb, Bool.true_and]
  · refine Is.mk ?_ (by exact xt)
    unfold mapB
    rw [decide_eq_false hb, Bool.false_and]

/- The least polynomials are there, and none is too great. -/
theorem IsMin.exist {m : List Nat} {s : Nat} : ∀ (A : Nat), A ≠ 0 → pe m s A = 0 → ∃ p k, IsMin m s p k := by
  intro A
  induction A using Nat.strongRecOn with
  | _ A ih =>
    intro h0 hz
    by_cases h : ∃ B, B < A ∧ B ≠ 0 ∧ pe m s B = 0
    · obtain ⟨B, h1, h2, h3⟩ := h
      exact ih B h1 h2 h3
    · refine ⟨A, A.log2, Deg.of h0, hz, fun q hq q0 hq0 => h ⟨q, ?_, q0, hq0⟩⟩
      exact Nat.lt_of_lt_of_le hq (Deg.of h0).ge
theorem deg_lt {p d n : Nat} (h : Deg p d) (hn : d ≤ n) : p < 2 ^ (n + 1) := Nat.lt_of_lt_of_le h.lt (Nat.pow_le_pow_right (by omega) (by omega))
/-- What the next step of the least polynomial works with. -/
theorem mpl_facts {m : List Nat} (hm : MapOK m) {i : Nat} (hi : i < m.length) : mpl m i < 2 ^ 17 ∧ lp m (2 ^ i) < 2 ^ 17 ∧ (∃ d, Deg (pg (mpl m i) (lp m (2 ^ i))) d) ∧ pg (mpl m i) (lp m (2 ^ i)) < 2 ^ 17 ∧ pdiv (lp m (2 ^ i)) (pg (mpl m i) (lp m (2 ^ i))) < 2 ^ (16 + 1) := by
  obtain ⟨A, d, hA, hd, hz⟩ := ann_all hm.2
  have hn := hm.1
  have hp : ∀ i < m.length, ∃ p k, IsMin m (2 ^ i) p k := fun i hi => IsMin.exist A hA.ne (hz i hi)
  obtain ⟨h1, h2⟩ := mpl_dv hz hp hA.ne i (by omega)
  obtain ⟨p, k, h3⟩ := hp i hi
  have e := lp_eq h3
  rw [e]
  have d1 := Deg.of h2
  have l1 := h1.le d1 hA
  have l2 := (h3.dv (hz i hi)).le h3.deg hA
  obtain ⟨g1, g2, _, g3⟩ := pg_spec (mpl m i) p
  have g0 := g3 (.inl h2)
  have dg := Deg.of g0
  have l3 := g1.le dg d1
  refine ⟨deg_lt d1 (by omega), deg_lt h3.deg (by omega), ⟨_, dg⟩, deg_lt dg (by omega), ?_⟩
  obtain ⟨q, hq⟩ := g2
  rw [(pdm_of dg (Nat.two_pow_pos _) (by rw [Nat.xor_zero]; exact hq)).1]
  have q0 : q ≠ 0 := by rintro rfl; rw [pm_zeroR] at hq; exact h3.deg.ne hq
  have := (dg.pm (Deg.of q0))
  rw [← hq] at this
  have := this.uniq h3.deg
  exact deg_lt (Deg.of q0) (by omega)

/-- What both sides give. -/
noncomputable def mpOut (l : List Int) : AV := if mapB l = true then .tup [.int .i64 (mpl (l.map Int.toNat) l.length : Nat), .bool true] else .tup [.int .i64 0, .bool false]
theorem mpOut_zs {m : List Nat} (h : mapB (zs m) = true) : mpOut (zs m) = .tup [.int .i64 (mpl m m.length : Nat), .bool true] := by
  unfold mpOut
  rw [if_pos h, zs_length]
  have : (zs m).map Int.toNat = m := by simp [zs, Function.comp_def]
  rw [this]

def Minimals (f : FuncId) : Prop := ∀ (l : List Int) (v : AV) (H : AH), IntsAt H v l → l.length < 9223372036854775807 → E f [v] H (Is (mpOut l) H)
theorem specMinimal_ok : Minimals 19 := by
  intro l v H hv hl
  refine Ev.enterK (fn := Try.f19) rfl Try.func19 rfl (by kernel_rfl) (by simp [Try.ntmps19]) ?_
  simp (disch := first | exact dsch | kernel_rfl) only [go_sem, ↓reduceIte, Nat.reduceEqDiff, Nat.reduceLT, Nat.reduceAdd, reduceCtorEq, Int.reduceToNat, Try.ntmps19, Try.results19]
  refine AOK_is (prGood_ok l v _ hv hl) ?_
  intro Hg xg
  by_cases hg : mapB l = true
  · obtain ⟨m, rfl, hm⟩ := mapB_true hg
    have hn : NatsAt H v m := hv
    have hn16 := hm.1
    (simp (disch := first | exact dsch | kernel_rfl) only [go_sem, ↓reduceIte, Nat.reduceEqDiff, Nat.reduceLT, Nat.reduceAdd, reduceCtorEq, Int.reduceToNat, Try.ntmps19, Try.results19, hg, hn.len] <;> repeat' ((first | (refine AOK_is (by exact poDivide_ok _ _ _ (by first | assumption | omega) (by assumption) (by first | assumption | omega) _) ?_; intro Hc hxc) | (refine AOK_is (by exact poGcd_ok _ _ (by first | assumption | omega) (by first | assumption | omega) _) ?_; intro Hc hxc) | (refine AOK_is (by exact poTimes_ok _ _ _ _ (by assumption) (by assumption) (by omega) _) ?_; intro Hc hxc) | (refine AOK_is (by exact prLeast_ok _ _ _ _ (by first | assumption | (refine SliceAt.ext (by assumption) ?_; exact xt)) (by assumption) (by first | assumption | omega)) ?_; intro Hc hxc) | refine AK.drawT (by kernel_rfl) ?_ | ((first | refine ABK_mk ?_ ?_ | refine AGK_mk ?_ ?_) <;> intro hb <;> (try simp only [decide_eq_true_eq, decide_eq_false_iff_not, Bool.not_eq_true', Bool.not_eq_false', Bool.not_not] at hb) <;> (try (exfalso; omega)) <;> (try subst hb) <;> try simp only [hb, decide_true, decide_false])) <;> try simp (disch := first | exact dsch | kernel_rfl) only [go_sem, ↓reduceIte, Nat.reduceEqDiff, Nat.reduceLT, Nat.reduceAdd, reduceCtorEq, Int.reduceToNat, Try.ntmps19, Try.results19, hg, hn.len]))
    refine (AK.countx 14 [4, 5, 6, 7, 8, 14, 15, 16, 17, 18, 19, 20, 21, 22, 23, 24, 25, 26, 27, 28, 29, 30, 31, 32] (by kernel_rfl) 0 m.length (fun i tm H' => tm 4 = .int .i64 (mpl m i : Nat)) (by rfl) (by omega) (by simp [go_sem, mpl]) ?_)
    rintro i tm H' K h1 h2 fr hq hx h4 hK
    by_cases hi : i < m.length
    · obtain ⟨f1, f2, ⟨d, f3⟩, f4, f5⟩ := mpl_facts hm hi
      have g1 := lt63_of f1 (by omega)
      have g2 := lt63_of f2 (by omega)
      have g4 := lt63_of f4 (by omega)
      have hi' : (i : Int) < (m.length : Int) := by omega
      have h2i : 2 ^ i < 2 ^ m.length := Nat.pow_lt_pow_right (by omega) hi
      (simp (disch := first | exact dsch | kernel_rfl) only [go_sem, ↓reduceIte, Nat.reduceEqDiff, Nat.reduceLT, Nat.reduceAdd, reduceCtorEq, Int.reduceToNat, Try.ntmps19, Try.results19, fr, hq, h4, hi'] <;> repeat' ((first | (refine AOK_is (by exact poDivide_ok _ _ _ (by first | assumption | omega) (by assumption) (by first | assumption | omega) _) ?_; intro Hc hxc) | (refine AOK_is (by exact poGcd_ok _ _ (by first | assumption | omega) (by first | assumption | omega) _) ?_; intro Hc hxc) | (refine AOK_is (by exact poTimes_ok _ _ _ _ (by assumption) (by assumption) (by omega) _) ?_; intro Hc hxc) | (refine AOK_is (by exact prLeast_ok _ _ _ _ (by first | assumption | (refine SliceAt.ext (by assumption) ?_; exact xt)) (by assumption) (by first | assumption | omega)) ?_; intro Hc hxc) | refine AK.drawT (by kernel_rfl) ?_ | ((first | refine ABK_mk ?_ ?_ | refine AGK_mk ?_ ?_) <;> intro hb <;> (try simp only [decide_eq_true_eq, decide_eq_false_iff_not, Bool.not_eq_true', Bool.not_eq_false', Bool.not_not] at hb) <;> (try (exfalso; omega)) <;> (try subst hb) <;> try simp only [hb, decide_true, decide_false])) <;> try simp (disch := first | exact dsch | kernel_rfl) only [go_sem, ↓reduceIte, Nat.reduceEqDiff, Nat.reduceLT, Nat.reduceAdd, reduceCtorEq, Int.reduceToNat, Try.ntmps19, Try.results19, fr, hq, h4, hi']))
      refine hK _ _ hi (by rfl) (by exact xt) ?_
      simp only [go_sem, ↓reduceIte, Nat.reduceEqDiff, mpl]
    · have hi' : ¬ (i : Int) < (m.length : Int) := by omega
      have e : i = m.length := by omega
      subst e
      (simp (disch := first | exact dsch | kernel_rfl) only [go_sem, ↓reduceIte, Nat.reduceEqDiff, Nat.reduceLT, Nat.reduceAdd, reduceCtorEq, Int.reduceToNat, Try.ntmps19, Try.results19, fr, hq, h4, hi'] <;> repeat' ((first | (refine AOK_is (by exact poDivide_ok _ _ _ (by first | assumption | omega) (by assumption) (by first | assumption | omega) _) ?_; intro Hc hxc) | (refine AOK_is (by exact poGcd_ok _ _ (by first | assumption | omega) (by first | assumption | omega) _) ?_; intro Hc hxc) | (refine AOK_is (by exact poTimes_ok _ _ _ _ (by assumption) (by assumption) (by omega) _) ?_; intro Hc hxc) | (refine AOK_is (by exact prLeast_ok _ _ _ _ (by first | assumption | (refine SliceAt.ext (by assumption) ?_; exact xt)) (by assumption) (by first | assumption | omega)) ?_; intro Hc hxc) | refine AK.drawT (by kernel_rfl) ?_ | ((first | refine ABK_mk ?_ ?_ | refine AGK_mk ?_ ?_) <;> intro hb <;> (try simp only [decide_eq_true_eq, decide_eq_false_iff_not, Bool.not_eq_true', Bool.not_eq_false', Bool.not_not] at hb) <;> (try (exfalso; omega)) <;> (try subst hb) <;> try simp only [hb, decide_true, decide_false])) <;> try simp (disch := first | exact dsch | kernel_rfl) only [go_sem, ↓reduceIte, Nat.reduceEqDiff, Nat.reduceLT, Nat.reduceAdd, reduceCtorEq, Int.reduceToNat, Try.ntmps19, Try.results19, fr, hq, h4, hi']))
      exact Is.mk (by rw [mpOut_zs hg]) (by exact xt)
  · rw [Bool.not_eq_true] at hg
    (simp (disch := first | exact dsch | kernel_rfl) only [go_sem, ↓reduceIte, Nat.reduceEqDiff, Nat.reduceLT, Nat.reduceAdd, reduceCtorEq, Int.reduceToNat, Try.ntmps19, Try.results19, hg] <;> repeat' ((first | (refine AOK_is (by exact poDivide_ok _ _ _ (by first | assumption | omega) (by assumption) (by first | assumption | omega) _) ?_; intro Hc hxc) | (refine AOK_is (by exact poGcd_ok _ _ (by first | assumption | omega) (by first | assumption | omega) _) ?_; intro Hc hxc) | (refine AOK_is (by exact poTimes_ok _ _ _ _ (by assumption) (by assumption) (by omega) _) ?_; intro Hc hxc) | (refine AOK_is (by exact prLeast_ok _ _ _ _ (by first | assumption | (refine SliceAt.ext (by assumption) ?_; exact xt)) (by assumption) (by first | assumption | omega)) ?_; intro Hc hxc) | refine AK.drawT (by kernel_rfl) ?_ | ((first | refine ABK_mk ?_ ?_ | refine AGK_mk ?_ ?_) <;> intro hb <;> (try simp only [decide_eq_true_eq, decide_eq_false_iff_not, Bool.not_eq_true', Bool.not_eq_false', Bool.not_not] at hb) <;> (try (exfalso; omega)) <;> (try subst hb) <;> try simp only [hb, decide_true, decide_false])) <;> try simp (disch := first | exact dsch | kernel_rfl) only [go_sem, ↓reduceIte, Nat.reduceEqDiff, Nat.reduceLT, Nat.reduceAdd, reduceCtorEq, Int.reduceToNat, Try.ntmps19, Try.results19, hg]))
    exact Is.mk (by unfold mpOut; rw [hg]; rfl) (by exact xt)

theorem implMinimal_ok : Minimals 21 := by
  intro l v H hv hl
  have hone := hv.isOne
  have hmk : ∀ H', abuildSlice TA H' 66 1 [(0, v)] = some (.sl H'.size 0 1, H'.push (.cells 1 false [v])) := fun H' => bs1 (t := 66) rfl rfl (te := 22) rfl rfl rfl hone
  refine Ev.enterK (fn := Try.f21) rfl Try.func21 rfl (by kernel_rfl) (by simp [Try.ntmps21]) ?_
  simp (disch := first | exact dsch | kernel_rfl) only [go_sem, ↓reduceIte, Nat.reduceEqDiff, Nat.reduceLT, Nat.reduceAdd, reduceCtorEq, Int.reduceToNat, Try.ntmps21, Try.results21, hmk]
  refine AOK_is (isMap_ok [l] _ _ (RowsZ.one hv) (by simp) (by simpa using hl)) ?_
  intro Hg xg
  rw [show [l].all mapB = mapB l by simp]
  have xg : Ext H Hg := (Ext.push _ _).trans xg
  by_cases hg : mapB l = true
  · obtain ⟨m, rfl, hm⟩ := mapB_true hg
    have hn : NatsAt H v m := hv
    have hn16 := hm.1
    (simp (disch := first | exact dsch | kernel_rfl) only [go_sem, ↓reduceIte, Nat.reduceEqDiff, Nat.reduceLT, Nat.reduceAdd, reduceCtorEq, Int.reduceToNat, Try.ntmps21, Try.results21, hg, hn.len] <;> repeat' ((first | (refine AOK_is (by exact divide_ok _ _ _ (by first | assumption | omega) (by assumption) (by first | assumption | omega) _) ?_; intro Hc hxc) | (refine AOK_is (by exact gcd_ok _ _ (by first | assumption | omega) (by first | assumption | omega) _) ?_; intro Hc hxc) | (refine AOK_is (by exact minimalOf_ok _ _ _ _ (by first | assumption | (refine SliceAt.ext (by assumption) ?_; exact xt)) (by assumption) (by first | assumption | omega)) ?_; intro Hc hxc) | (refine AOK_is (by exact times_ok _ _ _ _ (by assumption) (by assumption) (by omega) _) ?_; intro Hc hxc) | refine AK.drawT (by kernel_rfl) ?_ | ((first | refine ABK_mk ?_ ?_ | refine AGK_mk ?_ ?_) <;> intro hb <;> (try simp only [decide_eq_true_eq, decide_eq_false_iff_not, Bool.not_eq_true', Bool.not_eq_false', Bool.not_not] at hb) <;> (try (exfalso; omega)) <;> (try subst hb) <;> try simp only [hb, decide_true, decide_false])) <;> try simp (disch := first | exact dsch | kernel_rfl) only [go_sem, ↓reduceIte, Nat.reduceEqDiff, Nat.reduceLT, Nat.reduceAdd, reduceCtorEq, Int.reduceToNat, Try.ntmps21, Try.results21, hg, hn.len]))
    refine (AK.countx 15 [4, 5, 6, 7, 8, 15, 16, 17, 18, 19, 20, 21, 22, 23, 24, 25, 26, 27, 28, 29, 30, 31, 32, 33] (by kernel_rfl) 0 m.length (fun i tm H' => tm 4 = .int .i64 (mpl m i : Nat)) (by rfl) (by omega) (by simp [go_sem, mpl]) ?_)
    rintro i tm H' K h1 h2 fr hq hx h4 hK
    by_cases hi : i < m.length
    · obtain ⟨f1, f2, ⟨d, f3⟩, f4, f5⟩ := mpl_facts hm hi
      have g1 := lt63_of f1 (by omega)
      have g2 := lt63_of f2 (by omega)
      have g4 := lt63_of f4 (by omega)
      have hi' : (i : Int) < (m.length : Int) := by omega
      have h2i : 2 ^ i < 2 ^ m.length := Nat.pow_lt_pow_right (by omega) hi
      (simp (disch := first | exact dsch | kernel_rfl) only [go_sem, ↓reduceIte, Nat.reduceEqDiff, Nat.reduceLT, Nat.reduceAdd, reduceCtorEq, Int.reduceToNat, Try.ntmps21, Try.results21, fr, hq, h4, hi'] <;> repeat' ((first | (refine AOK_is (by exact divide_ok _ _ _ (by first | assumption | omega) (by assumption) (by first | assumption | omega) _) ?_; intro Hc hxc) | (refine AOK_is (by exact gcd_ok _ _ (by first | assumption | omega) (by first | assumption | omega) _) ?_; intro Hc hxc) | (refine AOK_is (by exact minimalOf_ok _ _ _ _ (by first | assumption | (refine SliceAt.ext (by assumption) ?_; exact xt)) (by assumption) (by first | assumption | omega)) ?_; intro Hc hxc) | (refine AOK_is (by exact times_ok _ _ _ _ (by assumption) (by assumption) (by omega) _) ?_; intro Hc hxc) | refine AK.drawT (by kernel_rfl) ?_ | ((first | refine ABK_mk ?_ ?_ | refine AGK_mk ?_ ?_) <;> intro hb <;> (try simp only [decide_eq_true_eq, decide_eq_false_iff_not, Bool.not_eq_true', Bool.not_eq_false', Bool.not_not] at hb) <;> (try (exfalso; omega)) <;> (try subst hb) <;> try simp only [hb, decide_true, decide_false])) <;> try simp (disch := first | exact dsch | kernel_rfl) only [go_sem, ↓reduceIte, Nat.reduceEqDiff, Nat.reduceLT, Nat.reduceAdd, reduceCtorEq, Int.reduceToNat, Try.ntmps21, Try.results21, fr, hq, h4, hi']))
      refine hK _ _ hi (by rfl) (by exact xt) ?_
      simp only [go_sem, ↓reduceIte, Nat.reduceEqDiff, mpl]
    · have hi' : ¬ (i : Int) < (m.length : Int) := by omega
      have e : i = m.length := by omega
      subst e
      (simp (disch := first | exact dsch | kernel_rfl) only [go_sem, ↓reduceIte, Nat.reduceEqDiff, Nat.reduceLT, Nat.reduceAdd, reduceCtorEq, Int.reduceToNat, Try.ntmps21, Try.results21, fr, hq, h4, hi'] <;> repeat' ((first | (refine AOK_is (by exact divide_ok _ _ _ (by first | assumption | omega) (by assumption) (by first | assumption | omega) _) ?_; intro Hc hxc) | (refine AOK_is (by exact gcd_ok _ _ (by first | assumption | omega) (by first | assumption | omega) _) ?_; intro Hc hxc) | (refine AOK_is (by exact minimalOf_ok _ _ _ _ (by first | assumption | (refine SliceAt.ext (by assumption) ?_; exact xt)) (by assumption) (by first | assumption | omega)) ?_; intro Hc hxc) | (refine AOK_is (by exact times_ok _ _ _ _ (by assumption) (by assumption) (by omega) _) ?_; intro Hc hxc) | refine AK.drawT (by kernel_rfl) ?_ | ((first | refine ABK_mk ?_ ?_ | refine AGK_mk ?_ ?_) <;> intro hb <;> (try simp only [decide_eq_true_eq, decide_eq_false_iff_not, Bool.not_eq_true', Bool.not_eq_false', Bool.not_not] at hb) <;> (try (exfalso; omega)) <;> (try subst hb) <;> try simp only [hb, decide_true, decide_false])) <;> try simp (disch := first | exact dsch | kernel_rfl) only [go_sem, ↓reduceIte, Nat.reduceEqDiff, Nat.reduceLT, Nat.reduceAdd, reduceCtorEq, Int.reduceToNat, Try.ntmps21, Try.results21, fr, hq, h4, hi']))
      exact Is.mk (by rw [mpOut_zs hg]) (by exact xt)
  · rw [Bool.not_eq_true] at hg
    (simp (disch := first | exact dsch | kernel_rfl) only [go_sem, ↓reduceIte, Nat.reduceEqDiff, Nat.reduceLT, Nat.reduceAdd, reduceCtorEq, Int.reduceToNat, Try.ntmps21, Try.results21, hg] <;> repeat' ((first | (refine AOK_is (by exact divide_ok _ _ _ (by first | assumption | omega) (by assumption) (by first | assumption | omega) _) ?_; intro Hc hxc) | (refine AOK_is (by exact gcd_ok _ _ (by first | assumption | omega) (by first | assumption | omega) _) ?_; intro Hc hxc) | (refine AOK_is (by exact minimalOf_ok _ _ _ _ (by first | assumption | (refine SliceAt.ext (by assumption) ?_; exact xt)) (by assumption) (by first | assumption | omega)) ?_; intro Hc hxc) | (refine AOK_is (by exact times_ok _ _ _ _ (by assumption) (by assumption) (by omega) _) ?_; intro Hc hxc) | refine AK.drawT (by kernel_rfl) ?_ | ((first | refine ABK_mk ?_ ?_ | refine AGK_mk ?_ ?_) <;> intro hb <;> (try simp only [decide_eq_true_eq, decide_eq_false_iff_not, Bool.not_eq_true', Bool.not_eq_false', Bool.not_not] at hb) <;> (try (exfalso; omega)) <;> (try subst hb) <;> try simp only [hb, decide_true, decide_false])) <;> try simp (disch := first | exact dsch | kernel_rfl) only [go_sem, ↓reduceIte, Nat.reduceEqDiff, Nat.reduceLT, Nat.reduceAdd, reduceCtorEq, Int.reduceToNat, Try.ntmps21, Try.results21, hg]))
    exact Is.mk (by unfold mpOut; rw [hg]; rfl) (by exact xt)

end Go.Proofs.Ytopbfmhajbjepaa
