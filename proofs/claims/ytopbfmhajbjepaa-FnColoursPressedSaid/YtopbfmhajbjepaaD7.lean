/- Contracts: colours as texts. -/
import Derived.Test.YtopbfmhajbjepaaD6
namespace Go.Proofs.Ytopbfmhajbjepaa
open Go
set_option linter.unusedSimpArgs false
set_option linter.unusedVariables false

set_option maxRecDepth 10000 in
theorem drawColoursText_ok (v : AV) (l : List Int) (H : AH) (hc : CodeAt H v l) : E 36 [v] H (Gives H fun v H' => NewL H.size H' v 11) := by
  have hv := SliceAt.isOne hc.dat
  refine Ev.enterK (fn := Try.f36) rfl Try.func36 rfl (by kernel_rfl) (by simp [Try.ntmps36]) ?_
  simp (disch := first | exact dsch | kernel_rfl) only [go_sem, ↓reduceIte, Nat.reduceEqDiff, Nat.reduceLT, Nat.reduceAdd, reduceCtorEq, Int.reduceToNat, Try.ntmps36, Try.results36]
  have cu := hc.cur
  have xb : Ext H (H.push (.cells 3 false [v, .int .i64 0, .int .u64 0])) := Ext.push _ _
  have hbs : (H.push (.cells 3 false [v, .int .i64 0, .int .u64 0])).size = H.size + 1 := rfl
  generalize H.push (.cells 3 false [v, .int .i64 0, .int .u64 0]) = Hb at *
  generalize hb0 : H.size = b at *
  have hbH := cu.lt
  generalize hH1 : Hb.push (.cells 1 false (ints [0, 1, 3, 6, 10, 11])) = H1
  have x1 : Ext Hb H1 := by rw [← hH1]; exact Ext.push _ _
  have i1 : IntsAt H1 (.sl Hb.size 0 6) [0, 1, 3, 6, 10, 11] := by rw [← hH1]; exact .inr ⟨_, _, _, _, _, rfl, AH.push_same _ _, by simp, by simp⟩
  refine AOK_calls (among_ok b 0 _ _ H1 (cu.ext x1) (by omega) i1 (.inr (by show Hb.size ≠ b; omega)) (by simp) (by simp)) ?_
  rintro _ H2 ⟨b2, c2, z, rfl, hz⟩
  obtain ⟨k0, rfl, hk0⟩ : ∃ q : Nat, z = (q : Int) ∧ q ≤ 11 := by simp at hz; exact ⟨z.toNat, by omega, by omega⟩
  simp (disch := first | exact dsch | kernel_rfl) only [go_sem, ↓reduceIte, Nat.reduceEqDiff, Nat.reduceLT, Nat.reduceAdd, reduceCtorEq, Int.reduceToNat, Try.ntmps36, Try.results36]
  refine (AK.while [4, 5, 12, 13, 14, 15, 16, 17, 18, 19, 20, 21] (by kernel_rfl) (fun k tm H' => ∃ v q, tm 3 = .ptr b 0 ∧ tm 5 = .int .i64 k ∧ tm 4 = v ∧ OwnC Hb H' v (ints q) ∧ q.length + k ≤ 11 ∧ But b Hb H' ∧ Cur H' b (2 + 2 * (11 - k))) k0 ⟨_, [], by simp [go_sem], by simp [go_sem], rfl, OwnC.nil, by simp; omega, (x1.but b).trans b2, c2.le (by omega)⟩ ?_)
  rintro k tm H' K fr ⟨v, q, h3, h5, h4, ho, hql, hb1, hc1⟩ hK
  by_cases hk : 0 < k
  · have hk' : (0 : Int) < (k : Int) := by omega
    simp (disch := first | exact dsch | kernel_rfl) only [go_sem, ↓reduceIte, Nat.reduceEqDiff, Nat.reduceLT, Nat.reduceAdd, reduceCtorEq, Int.reduceToNat, Try.ntmps36, Try.results36, h3, h5, h4, hk']
    generalize hH3 : H'.push (.cells 1 false (ints [0, 1, 2, 6, 9])) = H3
    have x3 : Ext H' H3 := by rw [← hH3]; exact Ext.push _ _
    have i3 : IntsAt H3 (.sl H'.size 0 5) [0, 1, 2, 6, 9] := by rw [← hH3]; exact .inr ⟨_, _, _, _, _, rfl, AH.push_same _ _, by simp, by simp⟩
    refine AOK_calls (among_ok b (2 + 2 * (11 - k)) _ _ H3 (hc1.ext x3) (by omega) i3 (.inr (by show H'.size ≠ b; have := hc1.lt; omega)) (by simp) (by simp)) ?_
    rintro _ H4 ⟨b4, c4, y, rfl, hy⟩
    obtain ⟨v', H5, ap, ho5, b5, c5⟩ := OwnC.appB ((ho.ext x3).but b4 (by omega)) ((hb1.trans (x3.but b)).trans b4) c4 y (by omega) (by omega)
    have e1 : (k : Int) - 1 = ((k - 1 : Nat) : Int) := by omega
    simp (disch := first | exact dsch | kernel_rfl) only [go_sem, ↓reduceIte, Nat.reduceEqDiff, Nat.reduceLT, Nat.reduceAdd, reduceCtorEq, Int.reduceToNat, Try.ntmps36, Try.results36, h3, h5, h4, ap, e1]
    exact hK (k - 1) _ _ (by omega) ⟨_, _, by simp [go_sem, h3], by simp [go_sem], rfl, ho5, by simp; omega, b5, c5.le (by omega)⟩
  · have hk' : ¬ (0 : Int) < (k : Int) := by omega
    have hlen := SliceAt.len ho.slice rfl (t := 22) rfl rfl (Ext.refl H')
    rw [ints_length] at hlen
    have fin : ∀ (Hx : AH) (v : AV) (q : List Int), OwnC Hb Hx v (ints q) → q.length ≤ 11 → But b Hb Hx → Gives H (fun v H' => NewL b H' v 11) v Hx := by
      intro Hx v q h1 h2 h3
      exact ⟨But.new xb (by omega) h3, by rw [← hb0]; exact (h1.base (by omega)).newL h2⟩
    simp (disch := first | exact dsch | kernel_rfl) only [go_sem, ↓reduceIte, Nat.reduceEqDiff, Nat.reduceLT, Nat.reduceAdd, reduceCtorEq, Int.reduceToNat, Try.ntmps36, Try.results36, h3, h5, h4, hk', hlen]
    by_cases hq0 : 0 < q.length
    · have d0 : decide ((0 : Int) < (q.length : Int)) = true := decide_eq_true (by omega)
      simp (disch := first | exact dsch | kernel_rfl) only [go_sem, ↓reduceIte, Nat.reduceEqDiff, Nat.reduceLT, Nat.reduceAdd, reduceCtorEq, Int.reduceToNat, Try.ntmps36, Try.results36, h3, h4, d0]
      refine AOK_calls (one_ok b (2 + 2 * (11 - k)) 10 _ hc1 (by omega)) ?_
      rintro _ H3 ⟨b3, c3, t3, rfl⟩
      have ho3 := ho.but b3 (by omega)
      cases t3
      · simp (disch := first | exact dsch | kernel_rfl) only [go_sem, ↓reduceIte, Nat.reduceEqDiff, Nat.reduceLT, Nat.reduceAdd, reduceCtorEq, Int.reduceToNat, Try.ntmps36, Try.results36, h3, h4, d0]
        exact fin _ _ _ ho3 (by omega) (hb1.trans b3)
      · simp (disch := first | exact dsch | kernel_rfl) only [go_sem, ↓reduceIte, Nat.reduceEqDiff, Nat.reduceLT, Nat.reduceAdd, reduceCtorEq, Int.reduceToNat, Try.ntmps36, Try.results36, h3, h4, d0]
        generalize hH4 : H3.push (.cells 1 false (ints [-1, 10])) = H4
        have x4 : Ext H3 H4 := by rw [← hH4]; exact Ext.push _ _
        have i4 : IntsAt H4 (.sl H3.size 0 2) [-1, 10] := by rw [← hH4]; exact .inr ⟨_, _, _, _, _, rfl, AH.push_same _ _, by simp, by simp⟩
        refine AOK_calls (among_ok b (2 + 2 * (11 - k) + 2) _ _ H4 (c3.ext x4) (by omega) i4 (.inr (by show H3.size ≠ b; have := c3.lt; omega)) (by simp) (by simp)) ?_
        rintro _ H5 ⟨b5, c5, y, rfl, hy⟩
        obtain ⟨H6, ix6, st6, ho6, bb6, c6⟩ := OwnC.setB ((ho3.ext x4).but b5 (by omega)) (((hb1.trans b3).trans (x4.but b)).trans b5) c5 (by omega) 0 hq0 y
        rw [show ((0 : Nat) : Int) = 0 from rfl] at ix6
        simp (disch := first | exact dsch | kernel_rfl) only [go_sem, ↓reduceIte, Nat.reduceEqDiff, Nat.reduceLT, Nat.reduceAdd, reduceCtorEq, Int.reduceToNat, Try.ntmps36, Try.results36, h3, h4, d0, ix6, st6]
        exact fin _ _ _ ho6 (by simp; omega) bb6
    · have d0 : decide ((0 : Int) < (q.length : Int)) = false := decide_eq_false (by omega)
      simp (disch := first | exact dsch | kernel_rfl) only [go_sem, ↓reduceIte, Nat.reduceEqDiff, Nat.reduceLT, Nat.reduceAdd, reduceCtorEq, Int.reduceToNat, Try.ntmps36, Try.results36, h3, h4, d0]
      exact fin _ _ _ ho (by omega) hb1

end Go.Proofs.Ytopbfmhajbjepaa
