/- Contracts: edges are added and listed. -/
import Derived.Test.YtopbfmhajbjepaaC3
namespace Go.Proofs.Ytopbfmhajbjepaa
open Go
set_option linter.unusedSimpArgs false
set_option linter.unusedVariables false

/-- An edge, added. -/
def addE (l : List Nat) (i j : Nat) : List Nat :=
  let l1 := l.set i (l.getD i 0 ||| 2 ^ j)
  l1.set j (l1.getD j 0 ||| 2 ^ i)
theorem addE_length (l : List Nat) (i j : Nat) : (addE l i j).length = l.length := by simp [addE]

theorem lgetD_set (l : List Nat) (i x k : Nat) : (l.set i x).getD k 0 = if i = k ∧ k < l.length then x else l.getD k 0 := by
  simp only [List.getD, List.getElem?_set]
  by_cases h : i = k
  · subst h
    by_cases h2 : i < l.length <;> simp [h2]
  · simp [h]

def Adds (f : FuncId) : Prop := ∀ (l : List Nat) (o : Bool) (b i j : Nat) (H : AH), RowAt H b l → l.length ≤ 16 → i < l.length → j < l.length → (∀ k < l.length, l.getD k 0 < 9223372036854775808) →
    E f [.agg [.sl b 0 l.length, .bool o], .int .i64 i, .int .i64 j] H fun v H' => v = .tup [] ∧ Ext (H.put b (rowBlk (addE l i j))) H'

theorem Ext.putpush {H : AH} {b : Nat} {x y z : ABlk} (hb : b < H.size) : Ext (H.put b z) (((H.push x).put b y).put b z) := by
  refine ⟨Nat.le_succ _, fun c hc => ?_⟩
  have hc : c < H.size := hc
  have hs : (H.push x).size = H.size + 1 := rfl
  simp only [put_blk, push_blk, put_size, hs]
  by_cases e : c = b
  · rw [if_pos ⟨e, by omega⟩, if_pos ⟨e, by omega⟩]
  · rw [if_neg (by omega), if_neg (by omega), if_neg (by omega), if_neg (by omega)]

theorem grAdd_ok : Adds 120 := by
  intro l o b i j H hr hl hi hj hw
  have hb := hr.lt
  have w1 := hw i hi
  have p1 := two_pow_lt (j := i) (by omega)
  have p2 := two_pow_lt (j := j) (by omega)
  have w2 : (l.set i (l.getD i 0 ||| 2 ^ j)).getD j 0 < 9223372036854775808 := by
    rw [lgetD_set]; split
    · exact or_lt63 w1 p2
    · exact hw j hj
  refine Ev.enterK (fn := Try.f120) rfl Try.func120 rfl (by kernel_rfl) (by simp [Try.ntmps120]) ?_
  (simp (disch := first | exact dsch | kernel_rfl) only [go_sem, ↓reduceIte, Nat.reduceEqDiff, Nat.reduceLT, Nat.reduceAdd, reduceCtorEq, Int.reduceToNat, Try.ntmps120, Try.results120, hr.ld, hr.st, List.length_set, push_size, put_size] <;> repeat' ((first | refine AK.drawT (by kernel_rfl) ?_ | ((first | refine ABK_mk ?_ ?_ | refine AGK_mk ?_ ?_) <;> intro hb <;> (try simp only [decide_eq_true_eq, decide_eq_false_iff_not, Bool.not_eq_true', Bool.not_eq_false', Bool.not_not] at hb) <;> (try (exfalso; omega)) <;> (try subst hb) <;> try simp only [hb, decide_true, decide_false])) <;> try simp (disch := first | exact dsch | kernel_rfl) only [go_sem, ↓reduceIte, Nat.reduceEqDiff, Nat.reduceLT, Nat.reduceAdd, reduceCtorEq, Int.reduceToNat, Try.ntmps120, Try.results120, hr.ld, hr.st, List.length_set, push_size, put_size]))
  exact Ext.putpush hb

theorem join_ok : Adds 123 := by
  intro l o b i j H hr hl hi hj hw
  have hb := hr.lt
  have w1 := hw i hi
  have p1 := two_pow_lt (j := i) (by omega)
  have p2 := two_pow_lt (j := j) (by omega)
  have w2 : (l.set i (l.getD i 0 ||| 2 ^ j)).getD j 0 < 9223372036854775808 := by
    rw [lgetD_set]; split
    · exact or_lt63 w1 p2
    · exact hw j hj
  refine Ev.enterK (fn := Try.f123) rfl Try.func123 rfl (by kernel_rfl) (by simp [Try.ntmps123]) ?_
  (simp (disch := first | exact dsch | kernel_rfl) only [go_sem, ↓reduceIte, Nat.reduceEqDiff, Nat.reduceLT, Nat.reduceAdd, reduceCtorEq, Int.reduceToNat, Try.ntmps123, Try.results123, hr.ld, hr.st, List.length_set, push_size, put_size] <;> repeat' ((first | refine AK.drawT (by kernel_rfl) ?_ | ((first | refine ABK_mk ?_ ?_ | refine AGK_mk ?_ ?_) <;> intro hb <;> (try simp only [decide_eq_true_eq, decide_eq_false_iff_not, Bool.not_eq_true', Bool.not_eq_false', Bool.not_not] at hb) <;> (try (exfalso; omega)) <;> (try subst hb) <;> try simp only [hb, decide_true, decide_false])) <;> try simp (disch := first | exact dsch | kernel_rfl) only [go_sem, ↓reduceIte, Nat.reduceEqDiff, Nat.reduceLT, Nat.reduceAdd, reduceCtorEq, Int.reduceToNat, Try.ntmps123, Try.results123, hr.ld, hr.st, List.length_set, push_size, put_size]))
  exact Ext.putpush hb

end Go.Proofs.Ytopbfmhajbjepaa
