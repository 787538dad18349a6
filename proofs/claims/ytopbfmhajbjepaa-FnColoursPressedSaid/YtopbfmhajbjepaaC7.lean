/- Graphs in memory; edges, added one after the other. -/
import Derived.Test.YtopbfmhajbjepaaC6
namespace Go.Proofs.Ytopbfmhajbjepaa
open Go
set_option linter.unusedSimpArgs false
set_option linter.unusedVariables false

theorem push_put {H : AH} {x y : ABlk} : (H.push x).put H.size y = H.push y :=
  AH.ext' rfl fun b => by
    rw [put_blk, push_blk, push_blk, push_size]
    by_cases e : b = H.size
    · rw [if_pos ⟨e, by omega⟩, if_pos e]
    · rw [if_neg (fun k => e k.1), if_neg e, if_neg e]

@[go_sem] theorem alloc_graph {H : AH} : aalloc TA H 26 = some (.ptr H.size 0, H.push (.cells 2 false [.nilsl, .bool false])) := rfl
@[go_sem] theorem build_graph0 : abuild TA 26 [] = some (.agg [.nilsl, .bool false]) := rfl
theorem build_graph {s : AV} {o : Bool} (h : s.one = true) : abuild TA 26 [(0, s), (1, .bool o)] = some (.agg [s, .bool o]) := by
  cases s <;> first | rfl | (simp [AV.one] at h)
@[go_sem] theorem build_graph_sl {b i n : Nat} {o : Bool} : abuild TA 26 [(0, .sl b i n), (1, .bool o)] = some (.agg [.sl b i n, .bool o]) := rfl
@[go_sem] theorem make_ints {H : AH} {n : Int} (h0 : 0 ≤ n) (h1 : n < 1099511627776) : amakeSlice TA H 22 (.int .i64 n) (.int .i64 n) = some (.sl H.size 0 n.toNat, H.push (rowBlk (List.replicate n.toNat 0))) := by
  have e : (List.replicate n.toNat [AV.int .i64 0]).flatten = ints (zs (List.replicate n.toNat 0)) := by
    generalize n.toNat = m
    induction m with
    | zero => rfl
    | succ m ih => rw [List.replicate_succ, List.flatten_cons, ih, List.replicate_succ]; rfl
  have hT : TA 22 = some td22 := rfl
  have hd : td22.d = .slice 3 := rfl
  have hE : TA 3 = some td3 := rfl
  have h2 : td3.size = 1 := rfl
  have h3 : td3.bytes = 8 := rfl
  have h4 : td3.zero = [AV.int .i64 0] := rfl
  simp only [amakeSlice, hT, hd, hE, h2, h3, h4, e, rowBlk]
  rw [if_pos ⟨h0, trivial, by omega, by omega, by omega⟩]

theorem ld_graph {H H' : AH} {b : Nat} {ro : Bool} {x y : AV} (h : H.blk b = .cells 2 ro [x, y]) (e : Ext H H') : aload1 TA H' 26 (.ptr b 0) = some (.agg [x, y], H') :=
  aload_agg (t := 26) (d := td26) (o := 0) rfl rfl (e.cells h) (Nat.le_refl 2)
@[go_sem] theorem box_graph {H0 H' : AH} {ro : Bool} {x y : AV} (e : Ext (H0.push (.cells 2 ro [x, y])) H') : aload1 TA H' 26 (.ptr H0.size 0) = some (.agg [x, y], H') := ld_graph (AH.push_same _ _) e
@[go_sem] theorem put_graph {H : AH} {b : Nat} {x y : AV} (hb : b < H.size) : aload1 TA (H.put b (.cells 2 false [x, y])) 26 (.ptr b 0) = some (.agg [x, y], H.put b (.cells 2 false [x, y])) :=
  ld_graph (put_blk_same hb) (Ext.refl _)
theorem st_graph {H : AH} {b : Nat} {x y s : AV} {o : Bool} (h : H.blk b = .cells 2 false [x, y]) (hs : s.one = true) : astore1 TA H 26 (.ptr b 0) (.agg [s, .bool o]) = some (.undef, H.put b (.cells 2 false [s, .bool o])) := by
  have hT : TA 26 = some td26 := rfl
  have h2 : td26.size = 2 := rfl
  have h3 : td26.agg = true := rfl
  have h4 : AV.one (.bool o) = true := rfl
  cases s <;> simp_all [astore1, astore, AV.cells, AV.known, AV.one, splice]
@[go_sem] theorem st_graph_new {H : AH} {x y : AV} {b i n : Nat} {o : Bool} : astore1 TA (H.push (.cells 2 false [x, y])) 26 (.ptr H.size 0) (.agg [.sl b i n, .bool o]) = some (.undef, H.push (.cells 2 false [.sl b i n, .bool o])) := by
  rw [st_graph (AH.push_same _ _) rfl, push_put]
@[go_sem low] theorem st_graph_old {H H' : AH} {x y : AV} {b i n : Nat} {o : Bool} (e : Ext (H.push (.cells 2 false [x, y])) H') :
    astore1 TA H' 26 (.ptr H.size 0) (.agg [.sl b i n, .bool o]) = some (.undef, H'.put H.size (.cells 2 false [.sl b i n, .bool o])) := st_graph (e.cells (AH.push_same _ _)) rfl
@[go_sem low] theorem st_graph_nil {H H' : AH} {x y : AV} {o : Bool} (e : Ext (H.push (.cells 2 false [x, y])) H') :
    astore1 TA H' 26 (.ptr H.size 0) (.agg [.nilsl, .bool o]) = some (.undef, H'.put H.size (.cells 2 false [.nilsl, .bool o])) := st_graph (e.cells (AH.push_same _ _)) rfl

/- Lists of lists: what is read of them. -/
section
variable {H H' : AH} {v : AV} {vs : List AV}
theorem SliceAt.rlen (h : SliceAt H v 1 vs) (x : Ext H H') : alen TA H' 66 v = some (.int .i64 vs.length) := SliceAt.len h rfl (t := 66) rfl rfl x
theorem SliceAt.rix (h : SliceAt H v 1 vs) {i : Int} (h0 : 0 ≤ i) (hi : i < vs.length) : aindexAddr TA 66 v (.int .i64 i) = some (.ptr v.sb (v.so + i.toNat)) :=
  SliceAt.ix h (t := 66) (te := 22) rfl rfl rfl rfl h0 hi
theorem SliceAt.rld (h : SliceAt H v 1 vs) (x : Ext H H') {i : Nat} (hi : i < vs.length) : aload1 TA H' 22 (.ptr v.sb (v.so + i)) = some (vs.getD i .undef, H') := by
  rw [SliceAt.ld h (te := 22) rfl rfl x hi]; simp [List.getD, hi]
end

/-- Edges, added one after the other. -/
def addAll (l : List Nat) (ps : List (Nat × Nat)) : List Nat := ps.foldl (fun l p => addE l p.1 p.2) l
theorem addAll_length (l : List Nat) (ps : List (Nat × Nat)) : (addAll l ps).length = l.length := by
  induction ps generalizing l with
  | nil => rfl
  | cons p ps ih => show (addAll (addE l p.1 p.2) ps).length = _; rw [ih, addE_length]
theorem addAll_append (l : List Nat) (ps qs : List (Nat × Nat)) : addAll l (ps ++ qs) = addAll (addAll l ps) qs := by simp [addAll]
theorem addAll_one (l : List Nat) (ps : List (Nat × Nat)) (i j : Nat) : addE (addAll l ps) i j = addAll l (ps ++ [(i, j)]) := by simp [addAll]

theorem addE_bit {l : List Nat} {i j : Nat} (hi : i < l.length) (hj : j < l.length) (a c : Nat) : ((addE l i j).getD a 0).testBit c = ((l.getD a 0).testBit c || decide (a = i ∧ c = j) || decide (a = j ∧ c = i)) := by
  simp only [addE, lgetD_set, List.length_set]
  by_cases e1 : j = a
  · subst e1
    rw [if_pos ⟨rfl, hj⟩, Nat.testBit_or, Nat.testBit_two_pow]
    by_cases e2 : i = j
    · subst e2
      rw [if_pos ⟨rfl, hj⟩, Nat.testBit_or, Nat.testBit_two_pow]
      simp only [true_and, eq_comm]
    · rw [if_neg (fun k => e2 k.1)]
      have : decide (j = i ∧ c = j) = false := by simp; omega
      rw [this, Bool.or_false]; simp only [true_and, eq_comm]
  · rw [if_neg (fun k => e1 k.1)]
    have h3 : decide (a = j ∧ c = i) = false := by simp; omega
    rw [h3, Bool.or_false]
    by_cases e2 : i = a
    · subst e2
      rw [if_pos ⟨rfl, hi⟩, Nat.testBit_or, Nat.testBit_two_pow]
      simp only [true_and, eq_comm]
    · rw [if_neg (fun k => e2 k.1)]
      have : decide (a = i ∧ c = j) = false := by simp; omega
      rw [this, Bool.or_false]

theorem addAll_bit {ps : List (Nat × Nat)} : ∀ {l : List Nat}, (∀ p ∈ ps, p.1 < l.length ∧ p.2 < l.length) → ∀ (a c : Nat), ((addAll l ps).getD a 0).testBit c = true ↔ ((l.getD a 0).testBit c = true ∨ (a, c) ∈ ps ∨ (c, a) ∈ ps) := by
  induction ps with
  | nil => intro l h a c; simp [addAll]
  | cons p ps ih =>
    intro l h a c
    show ((addAll (addE l p.1 p.2) ps).getD a 0).testBit c = true ↔ _
    have hp := h p (by simp)
    rw [ih (l := addE l p.1 p.2) (fun q hq => by rw [addE_length]; exact h q (by simp [hq])), addE_bit hp.1 hp.2]
    obtain ⟨x, y⟩ := p
    simp only [Bool.or_eq_true, decide_eq_true_eq, List.mem_cons, Prod.mk.injEq]
    constructor
    · rintro (((h | h) | h) | h | h) <;> simp_all
    · rintro (h | (h | h) | h | h) <;> simp_all

theorem rows_ext {l l' : List Nat} (hl : l.length = l'.length) (h : ∀ a c : Nat, (l.getD a 0).testBit c = true ↔ (l'.getD a 0).testBit c = true) : l = l' := by
  apply List.ext_getElem hl
  intro a h1 h2
  have : l.getD a 0 = l'.getD a 0 := Nat.eq_of_testBit_eq fun c => Bool.eq_iff_iff.2 (h a c)
  simpa [List.getD, h1, h2] using this
/-- The order of the edges does not matter. -/
theorem addAll_perm {l : List Nat} {ps qs : List (Nat × Nat)} (hp : ∀ p ∈ ps, p.1 < l.length ∧ p.2 < l.length) (h : ∀ p, p ∈ ps ↔ p ∈ qs) : addAll l ps = addAll l qs :=
  rows_ext (by rw [addAll_length, addAll_length]) fun a c => by
    rw [addAll_bit hp, addAll_bit fun p hq => hp p ((h p).2 hq), h, h]

/-- Rows that stay within n bits. -/
theorem addAll_lt {l : List Nat} {ps : List (Nat × Nat)} {n : Nat} (hp : ∀ p ∈ ps, p.1 < l.length ∧ p.2 < l.length) (hl : l.length ≤ n) (h : ∀ a, l.getD a 0 < 2 ^ n) (a : Nat) : (addAll l ps).getD a 0 < 2 ^ n := by
  apply lt_pow_of_bits
  intro c hc
  rcases (addAll_bit hp a c).1 hc with k | k | k
  · exact bits_of_lt_pow (h a) k
  · have := hp _ k; simp at this; omega
  · have := hp _ k; simp at this; omega

theorem edge_form {near : List Nat} {k : Nat} {e : List Nat} (h : e ∈ edgeL near k) : ∃ i j, e = [i, j] ∧ i < k ∧ i < j ∧ j < near.length ∧ (near.getD i 0).testBit j = true := by
  unfold edgeL rowE at h
  simp only [List.mem_flatMap, List.mem_range, List.mem_map, List.mem_filter, Bool.and_eq_true, decide_eq_true_eq] at h
  obtain ⟨i, hi, j, ⟨hj, h1, h2⟩, rfl⟩ := h
  exact ⟨i, j, rfl, hi, h1, hj, h2⟩
theorem edge_mem {near : List Nat} {k i j : Nat} : [i, j] ∈ edgeL near k ↔ i < k ∧ i < j ∧ j < near.length ∧ (near.getD i 0).testBit j = true := by
  constructor
  · intro h
    obtain ⟨i', j', e, h⟩ := edge_form h
    cases e; exact h
  · rintro ⟨h1, h2, h3, h4⟩
    unfold edgeL rowE
    simp only [List.mem_flatMap, List.mem_range, List.mem_map, List.mem_filter, Bool.and_eq_true, decide_eq_true_eq]
    exact ⟨i, h1, j, ⟨h3, h2, h4⟩, rfl⟩

/-- A slice that may be written, in a block that is not older than n. -/
def OwnAt (n : Nat) (H : AH) (v : AV) (cs : List AV) : Prop := (v = .nilsl ∧ cs = []) ∨ ∃ b o k xs, v = .sl b o k ∧ n ≤ b ∧ H.blk b = .cells 1 false xs ∧ o + k ≤ xs.length ∧ (xs.drop o).take k = cs
theorem OwnAt.slice {n : Nat} {H : AH} {v : AV} {cs : List AV} (h : OwnAt n H v cs) : SliceAt H v 1 cs := by
  rcases h with h | ⟨b, o, k, xs, h1, h2, h3, h4, h5⟩
  · exact .inl h
  · exact .inr ⟨b, o, k, false, xs, h1, h3, by omega, by simpa using h5⟩
theorem OwnAt.young {n : Nat} {H : AH} {v : AV} {cs : List AV} (h : OwnAt n H v cs) : SliceAt (H.young n) v 1 cs := by
  rcases h with h | ⟨b, o, k, xs, h1, h2, h3, h4, h5⟩
  · exact .inl h
  · exact .inr ⟨b, o, k, false, xs, h1, by rw [young_blk, if_neg (by omega)]; exact h3, by omega, by simpa using h5⟩
theorem OwnAt.ext {n : Nat} {H H' : AH} {v : AV} {cs : List AV} (h : OwnAt n H v cs) (x : Ext (H.young n) (H'.young n)) : OwnAt n H' v cs := by
  rcases h with h | ⟨b, o, k, xs, h1, h2, h3, h4, h5⟩
  · exact .inl h
  · refine .inr ⟨b, o, k, xs, h1, h2, ?_, h4, h5⟩
    have := x.cells (b := b) (by rw [young_blk, if_neg (by omega)]; exact h3)
    rwa [young_blk, if_neg (by omega)] at this
theorem OwnAt.sans {n : Nat} {H0 H : AH} {v : AV} {cs : List AV} (h : OwnAt n H v cs) (hn : H0.size ≤ n) {H' : AH} (x : Ext H0 H') : Ext H0 (H'.sans v) := by
  rcases h with ⟨rfl, _⟩ | ⟨b, o, k, xs, rfl, h2, _⟩
  · exact x
  · exact x.put (by omega) _

theorem OwnAt.le {n m : Nat} {H : AH} {v : AV} {cs : List AV} (h : OwnAt n H v cs) (hm : m ≤ n) : OwnAt m H v cs := h.imp id fun ⟨b, o, k, xs, h1, h2, h3⟩ => ⟨b, o, k, xs, h1, by omega, h3⟩
/-- Memory where one slice alone was written. -/
def Wrote (v : AV) (H H' : AH) : Prop := Ext (H.sans v) (H'.sans v)
theorem Wrote.refl (v : AV) (H : AH) : Wrote v H H := Ext.refl _
theorem Wrote.trans {v : AV} {H H1 H2 : AH} (h : Wrote v H H1) (k : Wrote v H1 H2) : Wrote v H H2 := Ext.trans h k
theorem Ext.wrote {v : AV} {H H1 : AH} (h : Ext H H1) : Wrote v H H1 := h.sans2
/-- What is older is as it was. -/
theorem Wrote.older {v : AV} {H H' : AH} (h : Wrote v H H') {n : Nat} {cs : List AV} (ho : OwnAt n H v cs) {H0 : AH} (hn : H0.size ≤ n) (x : Ext H0 H) : Ext H0 H' := by
  have e := (ho.sans hn x).trans h
  refine ⟨by have := e.size; rwa [sans_size] at this, fun b hb => ?_⟩
  rw [← e.quiet b hb]
  unfold AH.sans
  rcases ho with ⟨rfl, _⟩ | ⟨c, o, k, xs, rfl, h2, _⟩
  · rfl
  · simp only; rw [put_blk_ne (by omega)]
/-- What is younger is as it was. -/
theorem Wrote.younger {v : AV} {H H' : AH} (h : Wrote v H H') {m : Nat} (hv : v = .nilsl ∨ v.sb < m) : Ext (H.young m) (H'.young m) := by
  unfold Wrote at h
  rcases hv with rfl | hv
  · exact h.young m
  · cases v <;> first
      | (rename_i b o k
         have := h.young m
         simp only [AH.sans] at this
         rw [young_put (show b < m from hv), young_put (show b < m from hv)] at this
         exact this)
      | exact (show Ext H H' from h).young m

theorem RowAt.own {n : Nat} {H : AH} {b : Nat} {l : List Nat} (h : RowAt H b l) (hn : n ≤ b) : OwnAt n H (.sl b 0 l.length) (ints (zs l)) :=
  .inr ⟨b, 0, l.length, _, rfl, hn, h, by simp, by rw [List.drop_zero, List.take_of_length_le (by simp)]⟩

end Go.Proofs.Ytopbfmhajbjepaa
