/- Contracts: the edges of a graph. -/
import Derived.Test.YtopbfmhajbjepaaC5
namespace Go.Proofs.Ytopbfmhajbjepaa
open Go
set_option linter.unusedSimpArgs false
set_option linter.unusedVariables false

/-- The edges of a button to greater ones below m, and those of the buttons below i. -/
def rowE (near : List Nat) (i m : Nat) : List (List Nat) := ((List.range m).filter fun j => decide (i < j) && (near.getD i 0).testBit j).map fun j => [i, j]
def edgeL (near : List Nat) (i : Nat) : List (List Nat) := (List.range i).flatMap fun i => rowE near i near.length

theorem rowE_succ (near : List Nat) (i m : Nat) : rowE near i (m + 1) = rowE near i m ++ if i < m ∧ (near.getD i 0).testBit m = true then [[i, m]] else [] := by
  unfold rowE
  rw [List.range_succ, List.filter_append, List.map_append]
  congr 1
  by_cases h : i < m ∧ (near.getD i 0).testBit m = true
  · rw [if_pos h]
    simp only [List.filter_cons, h, decide_true, Bool.and_self, if_true, List.filter_nil, List.map_cons, List.map_nil]
  · rw [if_neg h]
    simpa using h
theorem rowE_le (near : List Nat) (i m : Nat) (h : m ≤ i + 1) : rowE near i m = [] := by
  unfold rowE
  rw [List.map_eq_nil_iff, List.filter_eq_nil_iff]
  intro j hj
  have := List.mem_range.1 hj
  simp; omega
theorem edgeL_succ (near : List Nat) (i : Nat) : edgeL near (i + 1) = edgeL near i ++ rowE near i near.length := by
  unfold edgeL; rw [List.range_succ, List.flatMap_append]; simp
theorem rowE_length (near : List Nat) (i m : Nat) : (rowE near i m).length ≤ m := by
  unfold rowE; rw [List.length_map]; exact Nat.le_trans (List.length_filter_le _ _) (by simp)
theorem edgeL_length (near : List Nat) (i : Nat) : (edgeL near i).length ≤ i * near.length := by
  induction i with
  | zero => simp [edgeL]
  | succ i ih => rw [edgeL_succ, List.length_append, Nat.succ_mul]; exact Nat.add_le_add ih (rowE_length _ _ _)

def Edges (f : FuncId) : Prop := ∀ (near : List Nat) (o : Bool) (s : AV) (H : AH), NatsAt H s near → near.length ≤ 16 → (∀ k < near.length, near.getD k 0 < 9223372036854775808) →
    E f [.agg [s, .bool o]] H (Gives H fun v H' => RowsAt (H'.young H.size) v (edgeL near near.length))

theorem grEdges_ok : Edges 119 := by
  intro near o s H hs hl hw
  refine Ev.enterK (fn := Try.f119) rfl Try.func119 rfl (by kernel_rfl) (by simp [Try.ntmps119]) ?_
  (simp (disch := first | exact dsch | kernel_rfl) only [go_sem, ↓reduceIte, Nat.reduceEqDiff, Nat.reduceLT, Nat.reduceAdd, reduceCtorEq, Int.reduceToNat, Try.ntmps119, Try.results119, hs.len] <;> repeat' ((first | (refine AOK_is (by first | exact grIn_ok _ _ (by omega) _ | exact grIn_okz _ _ (by omega) (by omega) (by omega) _) ?_; intro Hc hxc) | refine AK.drawT (by kernel_rfl) ?_ | ((first | refine ABK_mk ?_ ?_ | refine AGK_mk ?_ ?_) <;> intro hb <;> (try simp only [decide_eq_true_eq, decide_eq_false_iff_not, Bool.not_eq_true', Bool.not_eq_false', Bool.not_not] at hb) <;> (try (exfalso; omega)) <;> (try subst hb) <;> try simp only [hb, decide_true, decide_false])) <;> try simp (disch := first | exact dsch | kernel_rfl) only [go_sem, ↓reduceIte, Nat.reduceEqDiff, Nat.reduceLT, Nat.reduceAdd, reduceCtorEq, Int.reduceToNat, Try.ntmps119, Try.results119, hs.len]))
  refine (AK.count 10 [3, 4, 5, 6, 10, 11, 12, 13, 14, 15, 16, 17, 18, 19, 20, 21, 22, 23, 24, 25, 26, 27, 28, 29, 30, 31, 32, 33] (by kernel_rfl) 0 near.length (fun i tm H' => Ext (H.push (.cells 2 false [s, .bool o])) H' ∧ ∃ v, tm 3 = v ∧ OwnRows (H.push (.cells 2 false [s, .bool o])) H' v (edgeL near i)) (by rfl) (by omega) ⟨Ext.refl _, .nilsl, rfl, .nil⟩ ?_)
  rintro i tm H' K h1 h2 fr hq ⟨hx, v, hv, hO⟩ hK
  have hwi := hw i
  (simp (disch := first | exact dsch | kernel_rfl) only [go_sem, ↓reduceIte, Nat.reduceEqDiff, Nat.reduceLT, Nat.reduceAdd, reduceCtorEq, Int.reduceToNat, Try.ntmps119, Try.results119, fr, hq, hv, hs.len, hs.ix, hs.ld, Int.ofNat_lt] <;> repeat' ((first | (refine AOK_is (by first | exact grIn_ok _ _ (by omega) _ | exact grIn_okz _ _ (by omega) (by omega) (by omega) _) ?_; intro Hc hxc) | refine AK.drawT (by kernel_rfl) ?_ | ((first | refine ABK_mk ?_ ?_ | refine AGK_mk ?_ ?_) <;> intro hb <;> (try simp only [decide_eq_true_eq, decide_eq_false_iff_not, Bool.not_eq_true', Bool.not_eq_false', Bool.not_not] at hb) <;> (try (exfalso; omega)) <;> (try subst hb) <;> try simp only [hb, decide_true, decide_false])) <;> try simp (disch := first | exact dsch | kernel_rfl) only [go_sem, ↓reduceIte, Nat.reduceEqDiff, Nat.reduceLT, Nat.reduceAdd, reduceCtorEq, Int.reduceToNat, Try.ntmps119, Try.results119, fr, hq, hv, hs.len, hs.ix, hs.ld, Int.ofNat_lt]))
  · refine (AK.count 6 [3, 6, 17, 18, 19, 20, 21, 22, 23, 24, 25, 26, 27, 28, 29, 30, 31, 32] (by kernel_rfl) (i + 1) near.length (fun j tm H' => Ext (H.push (.cells 2 false [s, .bool o])) H' ∧ ∃ v, tm 3 = v ∧ OwnRows (H.push (.cells 2 false [s, .bool o])) H' v (edgeL near i ++ rowE near i j)) (by rfl) (by omega) ⟨hx, v, by simp only [go_sem, Nat.reduceEqDiff, ↓reduceIte, hv], by rw [rowE_le _ _ _ (by omega), List.append_nil]; exact hO⟩ ?_)
    rintro j tm2 H2 K2 g1 g2 fr2 hq2 ⟨hx2, v2, hv2, vs, ho, hone, hlen, hnat⟩ hK2
    have hlen2 : vs.length < 1099511627776 := by
      rw [hlen, List.length_append]
      have a := edgeL_length near i
      have b := rowE_length near i j
      have c : i * near.length ≤ 16 * 16 := Nat.mul_le_mul (by omega) hl
      omega
    (simp (disch := first | exact dsch | kernel_rfl) only [go_sem, ↓reduceIte, Nat.reduceEqDiff, Nat.reduceLT, Nat.reduceAdd, reduceCtorEq, Int.reduceToNat, Try.ntmps119, Try.results119, fr2, hq2, hv2, fr, hq, hs.len, hs.ix, hs.ld, Int.ofNat_lt, ho.app_rows hone hlen2] <;> repeat' ((first | (refine AOK_is (by first | exact grIn_ok _ _ (by omega) _ | exact grIn_okz _ _ (by omega) (by omega) (by omega) _) ?_; intro Hc hxc) | refine AK.drawT (by kernel_rfl) ?_ | ((first | refine ABK_mk ?_ ?_ | refine AGK_mk ?_ ?_) <;> intro hb <;> (try simp only [decide_eq_true_eq, decide_eq_false_iff_not, Bool.not_eq_true', Bool.not_eq_false', Bool.not_not] at hb) <;> (try (exfalso; omega)) <;> (try subst hb) <;> try simp only [hb, decide_true, decide_false])) <;> try simp (disch := first | exact dsch | kernel_rfl) only [go_sem, ↓reduceIte, Nat.reduceEqDiff, Nat.reduceLT, Nat.reduceAdd, reduceCtorEq, Int.reduceToNat, Try.ntmps119, Try.results119, fr2, hq2, hv2, fr, hq, hs.len, hs.ix, hs.ld, Int.ofNat_lt, ho.app_rows hone hlen2]))
    · refine hK2 _ _ (by omega) (by rfl) ⟨(Ext.sans ho (by exact xt)).trans (Ext.push _ _), _, by rfl, ?_⟩
      rw [rowE_succ, if_pos ⟨by omega, hb⟩, ← List.append_assoc]
      exact OwnRows.next ho hone hlen hnat (by exact xt) (by exact xt) (nats_push2 ho (by assumption) (by exact xt))
    · refine hK2 _ _ (by omega) (by rfl) ⟨by exact xt, v2, hv2, ?_⟩
      rw [rowE_succ, if_neg (by rw [hb]; simp), List.append_nil]
      exact OwnRows.ext ⟨vs, ho, hone, hlen, hnat⟩ (by assumption)
    · have e : j = near.length := by omega
      subst e
      refine hK _ _ (by omega) (by rfl) ⟨by exact xt, v2, hv2, ?_⟩
      rw [edgeL_succ]
      exact ⟨vs, ho, hone, hlen, hnat⟩
  · have e : i = near.length := by omega
    subst e
    exact ⟨by exact xt, hO.rows.younger (by rw [push_size]; omega)⟩

theorem edges_ok : Edges 122 := by
  intro near o s H hs hl hw
  refine Ev.enterK (fn := Try.f122) rfl Try.func122 rfl (by kernel_rfl) (by simp [Try.ntmps122]) ?_
  (simp (disch := first | exact dsch | kernel_rfl) only [go_sem, ↓reduceIte, Nat.reduceEqDiff, Nat.reduceLT, Nat.reduceAdd, reduceCtorEq, Int.reduceToNat, Try.ntmps122, Try.results122, hs.len] <;> repeat' ((first | (refine AOK_is (by first | exact has_ok _ _ (by omega) (by omega) _ | exact has_okz _ _ (by omega) (by omega) (by omega) (by omega) _) ?_; intro Hc hxc) | refine AK.drawT (by kernel_rfl) ?_ | ((first | refine ABK_mk ?_ ?_ | refine AGK_mk ?_ ?_) <;> intro hb <;> (try simp only [decide_eq_true_eq, decide_eq_false_iff_not, Bool.not_eq_true', Bool.not_eq_false', Bool.not_not] at hb) <;> (try (exfalso; omega)) <;> (try subst hb) <;> try simp only [hb, decide_true, decide_false])) <;> try simp (disch := first | exact dsch | kernel_rfl) only [go_sem, ↓reduceIte, Nat.reduceEqDiff, Nat.reduceLT, Nat.reduceAdd, reduceCtorEq, Int.reduceToNat, Try.ntmps122, Try.results122, hs.len]))
  refine (AK.count 11 [3, 4, 5, 6, 11, 12, 13, 14, 15, 16, 17, 18, 19, 20, 21, 22, 23, 24, 25, 26, 27, 28, 29, 30, 31, 32, 33, 34] (by kernel_rfl) 0 near.length (fun i tm H' => Ext (H.push (.cells 2 false [s, .bool o])) H' ∧ ∃ v, tm 3 = v ∧ OwnRows (H.push (.cells 2 false [s, .bool o])) H' v (edgeL near i)) (by rfl) (by omega) ⟨Ext.push _ _, _, by rfl, .new (Nat.le_refl _)⟩ ?_)
  rintro i tm H' K h1 h2 fr hq ⟨hx, v, hv, hO⟩ hK
  have hwi := hw i
  (simp (disch := first | exact dsch | kernel_rfl) only [go_sem, ↓reduceIte, Nat.reduceEqDiff, Nat.reduceLT, Nat.reduceAdd, reduceCtorEq, Int.reduceToNat, Try.ntmps122, Try.results122, fr, hq, hv, hs.len, hs.ix, hs.ld, Int.ofNat_lt] <;> repeat' ((first | (refine AOK_is (by first | exact has_ok _ _ (by omega) (by omega) _ | exact has_okz _ _ (by omega) (by omega) (by omega) (by omega) _) ?_; intro Hc hxc) | refine AK.drawT (by kernel_rfl) ?_ | ((first | refine ABK_mk ?_ ?_ | refine AGK_mk ?_ ?_) <;> intro hb <;> (try simp only [decide_eq_true_eq, decide_eq_false_iff_not, Bool.not_eq_true', Bool.not_eq_false', Bool.not_not] at hb) <;> (try (exfalso; omega)) <;> (try subst hb) <;> try simp only [hb, decide_true, decide_false])) <;> try simp (disch := first | exact dsch | kernel_rfl) only [go_sem, ↓reduceIte, Nat.reduceEqDiff, Nat.reduceLT, Nat.reduceAdd, reduceCtorEq, Int.reduceToNat, Try.ntmps122, Try.results122, fr, hq, hv, hs.len, hs.ix, hs.ld, Int.ofNat_lt]))
  · refine (AK.count 6 [3, 6, 18, 19, 20, 21, 22, 23, 24, 25, 26, 27, 28, 29, 30, 31, 32, 33] (by kernel_rfl) (i + 1) near.length (fun j tm H' => Ext (H.push (.cells 2 false [s, .bool o])) H' ∧ ∃ v, tm 3 = v ∧ OwnRows (H.push (.cells 2 false [s, .bool o])) H' v (edgeL near i ++ rowE near i j)) (by rfl) (by omega) ⟨hx, v, by simp only [go_sem, Nat.reduceEqDiff, ↓reduceIte, hv], by rw [rowE_le _ _ _ (by omega), List.append_nil]; exact hO⟩ ?_)
    rintro j tm2 H2 K2 g1 g2 fr2 hq2 ⟨hx2, v2, hv2, vs, ho, hone, hlen, hnat⟩ hK2
    have hlen2 : vs.length < 1099511627776 := by
      rw [hlen, List.length_append]
      have a := edgeL_length near i
      have b := rowE_length near i j
      have c : i * near.length ≤ 16 * 16 := Nat.mul_le_mul (by omega) hl
      omega
    (simp (disch := first | exact dsch | kernel_rfl) only [go_sem, ↓reduceIte, Nat.reduceEqDiff, Nat.reduceLT, Nat.reduceAdd, reduceCtorEq, Int.reduceToNat, Try.ntmps122, Try.results122, fr2, hq2, hv2, fr, hq, hs.len, hs.ix, hs.ld, Int.ofNat_lt, ho.app_rows hone hlen2] <;> repeat' ((first | (refine AOK_is (by first | exact has_ok _ _ (by omega) (by omega) _ | exact has_okz _ _ (by omega) (by omega) (by omega) (by omega) _) ?_; intro Hc hxc) | refine AK.drawT (by kernel_rfl) ?_ | ((first | refine ABK_mk ?_ ?_ | refine AGK_mk ?_ ?_) <;> intro hb <;> (try simp only [decide_eq_true_eq, decide_eq_false_iff_not, Bool.not_eq_true', Bool.not_eq_false', Bool.not_not] at hb) <;> (try (exfalso; omega)) <;> (try subst hb) <;> try simp only [hb, decide_true, decide_false])) <;> try simp (disch := first | exact dsch | kernel_rfl) only [go_sem, ↓reduceIte, Nat.reduceEqDiff, Nat.reduceLT, Nat.reduceAdd, reduceCtorEq, Int.reduceToNat, Try.ntmps122, Try.results122, fr2, hq2, hv2, fr, hq, hs.len, hs.ix, hs.ld, Int.ofNat_lt, ho.app_rows hone hlen2]))
    · refine hK2 _ _ (by omega) (by rfl) ⟨(Ext.sans ho (by exact xt)).trans (Ext.push _ _), _, by rfl, ?_⟩
      rw [rowE_succ, if_pos ⟨by omega, hb⟩, ← List.append_assoc]
      exact OwnRows.next ho hone hlen hnat (by exact xt) (by exact xt) (nats_push2 ho (by assumption) (by exact xt))
    · refine hK2 _ _ (by omega) (by rfl) ⟨by exact xt, v2, hv2, ?_⟩
      rw [rowE_succ, if_neg (by rw [hb]; simp), List.append_nil]
      exact OwnRows.ext ⟨vs, ho, hone, hlen, hnat⟩ (by assumption)
    · have e : j = near.length := by omega
      subst e
      refine hK _ _ (by omega) (by rfl) ⟨by exact xt, v2, hv2, ?_⟩
      rw [edgeL_succ]
      exact ⟨vs, ho, hone, hlen, hnat⟩
  · have e : i = near.length := by omega
    subst e
    exact ⟨by exact xt, hO.rows.younger (by rw [push_size]; omega)⟩

end Go.Proofs.Ytopbfmhajbjepaa
