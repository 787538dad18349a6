/- Lists under construction, and lists of lists. -/
import Derived.Test.YtopbfmhajbjepaaC4
namespace Go.Proofs.Ytopbfmhajbjepaa
open Go
set_option linter.unusedSimpArgs false
set_option linter.unusedVariables false

theorem cells_one {v : AV} (h : v.one = true) : v.cells = [v] := by cases v <;> simp_all [AV.one, AV.cells]
theorem known_one {v : AV} (h : v.one = true) : v.known = true := by cases v <;> simp_all [AV.one, AV.known]

theorem bs0 {H : AH} {t te : TypeId} {d de : TD} (hT : TA t = some d) (hd : d.d = .slice te) (hTe : TA te = some de) (hs : de.size = 1) : abuildSlice TA H t 0 [] = some (.sl H.size 0 0, H.push (.cells 1 false [])) := by
  simp [abuildSlice, hT, hd, hTe, hs, afill]
theorem bs1 {H : AH} {t te : TypeId} {d de : TD} (hT : TA t = some d) (hd : d.d = .slice te) (hTe : TA te = some de) (hs : de.size = 1) (hz : de.zero.length = 1) {v : AV} (h : v.one = true) :
    abuildSlice TA H t 1 [(0, v)] = some (.sl H.size 0 1, H.push (.cells 1 false [v])) := by
  obtain ⟨z, hz⟩ := List.length_eq_one_iff.1 hz
  simp [abuildSlice, hT, hd, hTe, hs, afill, hz, cells_one h, known_one h, splice]
theorem bs2 {H : AH} {t te : TypeId} {d de : TD} (hT : TA t = some d) (hd : d.d = .slice te) (hTe : TA te = some de) (hs : de.size = 1) (hz : de.zero.length = 1) {v w : AV} (h : v.one = true) (h2 : w.one = true) :
    abuildSlice TA H t 2 [(0, v), (1, w)] = some (.sl H.size 0 2, H.push (.cells 1 false [v, w])) := by
  obtain ⟨z, hz⟩ := List.length_eq_one_iff.1 hz
  simp [abuildSlice, hT, hd, hTe, hs, afill, hz, cells_one h, known_one h, cells_one h2, known_one h2, splice, List.replicate]
@[go_sem] theorem bs0_ints {H : AH} : abuildSlice TA H 22 0 [] = some (.sl H.size 0 0, H.push (.cells 1 false [])) := bs0 (t := 22) rfl rfl (te := 3) rfl rfl
@[go_sem] theorem bs1_ints {H : AH} {v : Int} : abuildSlice TA H 22 1 [(0, .int .i64 v)] = some (.sl H.size 0 1, H.push (.cells 1 false [.int .i64 v])) := bs1 (t := 22) rfl rfl (te := 3) rfl rfl rfl rfl
@[go_sem] theorem bs2_ints {H : AH} {v w : Int} : abuildSlice TA H 22 2 [(0, .int .i64 v), (1, .int .i64 w)] = some (.sl H.size 0 2, H.push (.cells 1 false [.int .i64 v, .int .i64 w])) :=
  bs2 (t := 22) rfl rfl (te := 3) rfl rfl rfl rfl rfl
@[go_sem] theorem bs0_rows {H : AH} : abuildSlice TA H 66 0 [] = some (.sl H.size 0 0, H.push (.cells 1 false [])) := bs0 (t := 66) rfl rfl (te := 22) rfl rfl
@[go_sem] theorem bs1_rows {H : AH} {b o n : Nat} : abuildSlice TA H 66 1 [(0, .sl b o n)] = some (.sl H.size 0 1, H.push (.cells 1 false [.sl b o n])) := bs1 (t := 66) rfl rfl (te := 22) rfl rfl rfl rfl

/-- Memory without a slice's block. -/
def AH.sans (H : AH) (v : AV) : AH := match v with | .sl b _ _ => H.put b .dead | _ => H

/-- A slice that is being made: nil, or a whole block that is newer than H0. -/
def OwnC (H0 H : AH) (v : AV) (cs : List AV) : Prop := (v = .nilsl ∧ cs = []) ∨ ∃ b, v = .sl b 0 cs.length ∧ H0.size ≤ b ∧ H.blk b = .cells 1 false cs

theorem OwnC.nil {H0 H : AH} : OwnC H0 H .nilsl [] := .inl ⟨rfl, rfl⟩
theorem OwnC.new {H0 H : AH} (h : H0.size ≤ H.size) (cs : List AV) : OwnC H0 (H.push (.cells 1 false cs)) (.sl H.size 0 cs.length) cs := .inr ⟨_, rfl, h, AH.push_same _ _⟩
theorem OwnC.ext {H0 H H' : AH} {v : AV} {cs : List AV} (h : OwnC H0 H v cs) (x : Ext H H') : OwnC H0 H' v cs := h.imp id fun ⟨b, h1, h2, h3⟩ => ⟨b, h1, h2, x.cells h3⟩
theorem OwnC.slice {H0 H : AH} {v : AV} {cs : List AV} (h : OwnC H0 H v cs) : SliceAt H v 1 cs := by
  rcases h with h | ⟨b, h1, h2, h3⟩
  · exact .inl h
  · exact .inr ⟨b, 0, _, _, _, h1, h3, by simp, by rw [List.drop_zero, List.take_of_length_le (by simp)]⟩
theorem Ext.sans {H0 H : AH} {v : AV} {cs : List AV} (h : OwnC H0 H v cs) {H' : AH} (x : Ext H0 H') : Ext H0 (H'.sans v) := by
  rcases h with ⟨rfl, _⟩ | ⟨b, rfl, h2, _⟩
  · exact x
  · exact x.put h2 _
theorem Ext.sans2 {H H' : AH} (x : Ext H H') {v : AV} : Ext (H.sans v) (H'.sans v) := by
  cases v <;> try exact x
  rename_i b o n
  refine ⟨x.size, fun c hc => ?_⟩
  have hc : c < H.size := hc
  have hc' : c < H'.size := Nat.lt_of_lt_of_le hc x.size
  simp only [AH.sans, put_blk]
  by_cases e : c = b
  · rw [if_pos ⟨e, hc'⟩, if_pos ⟨e, hc⟩]
  · rw [if_neg (fun k => e k.1), if_neg (fun k => e k.1)]; exact x.quiet c hc

theorem OwnC.app' {H0 H H1 : AH} {v y : AV} {cs : List AV} (h : OwnC H0 H v cs) (x : Ext H H1) (hy : y.one = true) (hc : cs.all AV.one = true) (hl : cs.length < 1099511627776) {t te : TypeId} {d de : TD} (hT : TA t = some d) (hd : d.d = .slice te) (hTe : TA te = some de)
    (hs : de.size = 1) (hb : de.bytes ≤ 64) : aappend2 TA (H1.push (.cells 1 false [y])) t t v (.sl H1.size 0 1) = some (.sl ((H1.push (.cells 1 false [y])).sans v).size 0 (cs.length + 1), ((H1.push (.cells 1 false [y])).sans v).push (.cells 1 false (cs ++ [y]))) := by
  have e1 : (H1.push (.cells 1 false [y])).blk H1.size = .cells 1 false [y] := AH.push_same _ _
  have hb' : ¬ (1099511627777 * de.bytes > 140737488355328) := by omega
  have hm : (cs.length + 1) * de.bytes ≤ 1099511627777 * de.bytes := Nat.mul_le_mul_right _ (by omega)
  have hq : (cs.all AV.one && AV.one y) = true := by simp [hc, hy]
  rcases h with ⟨rfl, rfl⟩ | ⟨b, rfl, h2, h3⟩
  · have := hm
    simp [aappend2, aappend, hT, hd, hTe, srcOk, asource, hs, e1, hy, AH.kill, AH.sans]
    omega
  · have h3' : (H1.push (.cells 1 false [y])).blk b = .cells 1 false cs := ((x.trans (Ext.push _ _)).cells h3)
    simp [aappend2, aappend, hT, hd, hTe, srcOk, asource, hs, e1, hy, AH.kill, AH.sans, h3']
    exact ⟨⟨by omega, by omega⟩, rfl⟩
theorem OwnC.next {H0 H H1 : AH} {v y : AV} {cs : List AV} (h : OwnC H0 H v cs) (x : Ext H H1) (x0 : Ext H0 H1) :
    OwnC H0 (((H1.push (.cells 1 false [y])).sans v).push (.cells 1 false (cs ++ [y]))) (.sl ((H1.push (.cells 1 false [y])).sans v).size 0 (cs.length + 1)) (cs ++ [y]) := by
  have e : ((H1.push (.cells 1 false [y])).sans v).size = H1.size + 1 := by cases v <;> rfl
  have := OwnC.new (H0 := H0) (H := (H1.push (.cells 1 false [y])).sans v) (by rw [e]; have := x0.size; omega) (cs ++ [y])
  rwa [List.length_append, List.length_singleton] at this

theorem OwnC.app_rows {H0 H H1 : AH} {v : AV} {b o n : Nat} {cs : List AV} (h : OwnC H0 H v cs) (hc : cs.all AV.one = true) (hl : cs.length < 1099511627776) (x : Ext H H1) :
    aappend2 TA (H1.push (.cells 1 false [.sl b o n])) 66 66 v (.sl H1.size 0 1) = some (.sl ((H1.push (.cells 1 false [.sl b o n])).sans v).size 0 (cs.length + 1), ((H1.push (.cells 1 false [.sl b o n])).sans v).push (.cells 1 false (cs ++ [.sl b o n]))) :=
  h.app' x rfl hc hl (t := 66) rfl rfl (te := 22) rfl rfl (by decide)
theorem OwnC.app_ints {H0 H H1 : AH} {v : AV} {k : IntKind} {n : Int} {cs : List AV} (h : OwnC H0 H v cs) (hc : cs.all AV.one = true) (hl : cs.length < 1099511627776) (x : Ext H H1) :
    aappend2 TA (H1.push (.cells 1 false [.int k n])) 22 22 v (.sl H1.size 0 1) = some (.sl ((H1.push (.cells 1 false [.int k n])).sans v).size 0 (cs.length + 1), ((H1.push (.cells 1 false [.int k n])).sans v).push (.cells 1 false (cs ++ [.int k n]))) :=
  h.app' x rfl hc hl (t := 22) rfl rfl (te := 3) rfl rfl (by decide)

/-- Memory without what is older than n. -/
def AH.young (H : AH) (n : Nat) : AH := ⟨H.size, fun b => if b < n then .dead else H.blk b, fun b h => by split; rfl; exact H.out b h⟩
theorem young_blk {H : AH} {n b : Nat} : (H.young n).blk b = if b < n then .dead else H.blk b := rfl
theorem young_size {H : AH} {n : Nat} : (H.young n).size = H.size := rfl
theorem AH.ext' {H H' : AH} (h1 : H.size = H'.size) (h2 : ∀ b, H.blk b = H'.blk b) : H = H' := by
  obtain ⟨s, f, p⟩ := H; obtain ⟨s', f', p'⟩ := H'
  simp only at h1 h2
  subst h1
  have : f = f' := funext h2
  subst this; rfl
theorem young_push {H : AH} {n : Nat} {x : ABlk} (h : n ≤ H.size) : (H.push x).young n = (H.young n).push x :=
  AH.ext' rfl fun b => by
    rw [young_blk, push_blk, push_blk, young_blk, young_size]
    by_cases e : b = H.size
    · rw [if_pos e, if_neg (by omega), if_pos e]
    · rw [if_neg e, if_neg e]
theorem young_put {H : AH} {n b : Nat} {x : ABlk} (h : b < n) : (H.put b x).young n = H.young n :=
  AH.ext' rfl fun c => by
    rw [young_blk, young_blk]
    by_cases e : c < n
    · rw [if_pos e, if_pos e]
    · rw [if_neg e, if_neg e, put_blk_ne (by omega)]
theorem sans_size {H : AH} {v : AV} : (H.sans v).size = H.size := by cases v <;> rfl
theorem young_sans {H : AH} {n : Nat} {v : AV} : (H.sans v).young n = (H.young n).sans v := by
  cases v <;> try rfl
  refine AH.ext' rfl fun b => ?_
  simp only [AH.sans, young_blk, put_blk, young_size]
  split
  · split <;> rfl
  · rfl
theorem Ext.young {H H' : AH} (x : Ext H H') (n : Nat) : Ext (H.young n) (H'.young n) := ⟨x.size, fun b hb => by rw [young_blk, young_blk, x.quiet b hb]⟩
theorem SliceAt.old {H : AH} {n : Nat} {w : AV} {e : Nat} {cs : List AV} (h : SliceAt (H.young n) w e cs) : SliceAt H w e cs := by
  rcases h with h | ⟨b, o, k, ro, xs, h1, h2, h3, h4⟩
  · exact .inl h
  · refine .inr ⟨b, o, k, ro, xs, h1, ?_, h3, h4⟩
    rw [young_blk] at h2
    split at h2
    · cases h2
    · exact h2

/-- A list of lists of numbers. -/
def RowsAt (H : AH) (v : AV) (ls : List (List Nat)) : Prop := ∃ vs, SliceAt H v 1 vs ∧ vs.length = ls.length ∧ ∀ k < ls.length, NatsAt H (vs.getD k .undef) (ls.getD k [])
/-- One that is being made. -/
def OwnRows (H0 H : AH) (v : AV) (ls : List (List Nat)) : Prop := ∃ vs, OwnC H0 H v vs ∧ vs.all AV.one = true ∧ vs.length = ls.length ∧ ∀ k < ls.length, NatsAt ((H.young H0.size).sans v) (vs.getD k .undef) (ls.getD k [])

theorem SliceAt.sans {H : AH} {v w : AV} {e : Nat} {cs : List AV} (h : SliceAt (H.sans v) w e cs) : SliceAt H w e cs := by
  rcases h with h | ⟨b, o, n, ro, xs, h1, h2, h3, h4⟩
  · exact .inl h
  · refine .inr ⟨b, o, n, ro, xs, h1, ?_, h3, h4⟩
    unfold AH.sans at h2
    split at h2
    · rw [put_blk] at h2
      split at h2
      · cases h2
      · exact h2
    · exact h2
theorem OwnC.young {H0 H : AH} {v : AV} {cs : List AV} (h : OwnC H0 H v cs) : SliceAt (H.young H0.size) v 1 cs := by
  rcases h with h | ⟨b, h1, h2, h3⟩
  · exact .inl h
  · exact .inr ⟨b, 0, _, _, _, h1, by rw [young_blk, if_neg (by omega)]; exact h3, by simp, by rw [List.drop_zero, List.take_of_length_le (by simp)]⟩
theorem OwnRows.rows {H0 H : AH} {v : AV} {ls : List (List Nat)} (h : OwnRows H0 H v ls) : RowsAt (H.young H0.size) v ls :=
  let ⟨vs, h1, h2, h3, h4⟩ := h; ⟨vs, h1.young, h3, fun k hk => (h4 k hk).sans⟩
theorem OwnRows.nil {H0 H : AH} : OwnRows H0 H .nilsl [] := ⟨[], .nil, rfl, rfl, fun k hk => by simp at hk⟩
theorem OwnRows.new {H0 H : AH} (h : H0.size ≤ H.size) : OwnRows H0 (H.push (.cells 1 false [])) (.sl H.size 0 0) [] := ⟨[], .new h [], rfl, rfl, fun k hk => by simp at hk⟩
theorem OwnRows.ext {H0 H H' : AH} {v : AV} {ls : List (List Nat)} (h : OwnRows H0 H v ls) (x : Ext H H') : OwnRows H0 H' v ls :=
  let ⟨vs, h1, h2, h3, h4⟩ := h; ⟨vs, h1.ext x, h2, h3, fun k hk => (h4 k hk).ext (x.young _).sans2⟩
theorem RowsAt.ext {H H' : AH} {v : AV} {ls : List (List Nat)} (h : RowsAt H v ls) (x : Ext H H') : RowsAt H' v ls :=
  let ⟨vs, h1, h2, h3⟩ := h; ⟨vs, h1.ext x, h2, fun k hk => (h3 k hk).ext x⟩

theorem SliceAt.younger {H : AH} {n m : Nat} (hm : m ≤ n) {w : AV} {e : Nat} {cs : List AV} (h : SliceAt (H.young n) w e cs) : SliceAt (H.young m) w e cs := by
  rcases h with h | ⟨b, o, k, ro, xs, h1, h2, h3, h4⟩
  · exact .inl h
  · refine .inr ⟨b, o, k, ro, xs, h1, ?_, h3, h4⟩
    rw [young_blk] at h2 ⊢
    split at h2
    · cases h2
    · rw [if_neg (by omega)]; exact h2
theorem RowsAt.younger {H : AH} {n m : Nat} {v : AV} {ls : List (List Nat)} (h : RowsAt (H.young n) v ls) (hm : m ≤ n) : RowsAt (H.young m) v ls :=
  let ⟨vs, h1, h2, h3⟩ := h; ⟨vs, h1.younger hm, h2, fun k hk => (h3 k hk).younger hm⟩
theorem getD_append1 {α : Type} (l : List α) (x d : α) (k : Nat) : (l ++ [x]).getD k d = if k < l.length then l.getD k d else if k = l.length then x else d := by
  simp only [List.getD]
  by_cases h : k < l.length
  · rw [if_pos h, List.getElem?_append_left h]
  · rw [if_neg h, List.getElem?_append_right (by omega)]
    by_cases h2 : k = l.length
    · subst h2; simp
    · rw [if_neg h2]; rw [List.getElem?_eq_none (by simp; omega)]; rfl

/-- A list of its own is appended to it. -/
theorem OwnRows.next {H0 H H1 : AH} {v : AV} {ls : List (List Nat)} {vs : List AV} (h1 : OwnC H0 H v vs) (h2 : vs.all AV.one = true) (h3 : vs.length = ls.length) (h4 : ∀ k < ls.length, NatsAt ((H.young H0.size).sans v) (vs.getD k .undef) (ls.getD k []))
    (x : Ext H H1) (x0 : Ext H0 H1) {b o n : Nat} {e : List Nat} (hy : NatsAt ((H1.young H0.size).sans v) (.sl b o n) e) :
    OwnRows H0 (((H1.push (.cells 1 false [.sl b o n])).sans v).push (.cells 1 false (vs ++ [.sl b o n]))) (.sl ((H1.push (.cells 1 false [.sl b o n])).sans v).size 0 (vs.length + 1)) (ls ++ [e]) := by
  refine ⟨vs ++ [.sl b o n], h1.next x x0, by simp [h2, AV.one], by simp [h3], fun k hk => ?_⟩
  have hz := x0.size
  have hx : Ext ((H1.young H0.size).sans v) (((((H1.push (.cells 1 false [.sl b o n])).sans v).push (.cells 1 false (vs ++ [.sl b o n]))).young H0.size).sans (.sl ((H1.push (.cells 1 false [.sl b o n])).sans v).size 0 (vs.length + 1))) := by
    rw [young_push (by rw [sans_size, push_size]; omega), young_sans, young_push (by omega)]
    have e1 : Ext ((H1.young H0.size).sans v) (((H1.young H0.size).push (.cells 1 false [.sl b o n])).sans v) := (Ext.push _ _).sans2
    refine Ext.put (e1.trans (Ext.push _ _)) ?_ _
    rw [sans_size, sans_size, push_size, young_size]; omega
  rw [getD_append1, getD_append1, h3]
  by_cases hk2 : k < ls.length
  · rw [if_pos hk2, if_pos hk2]
    exact ((h4 k hk2).ext (x.young _).sans2).ext hx
  · have : k = ls.length := by simp at hk; omega
    rw [if_neg hk2, if_neg hk2, if_pos this, if_pos this]
    exact hy.ext hx

/-- A new list of two numbers. -/
theorem nats_push2 {H : AH} {v : AV} {H0 : AH} {vs : List AV} (h : OwnC H0 H v vs) {a b : Nat} {H1 : AH} (x : Ext H H1) (x0 : Ext H0 H1) :
    NatsAt (((H1.push (.cells 1 false [.int .i64 (a : Int), .int .i64 (b : Int)])).young H0.size).sans v) (.sl H1.size 0 2) [a, b] := by
  refine .inr ⟨_, 0, 2, false, [.int .i64 (a : Int), .int .i64 (b : Int)], rfl, ?_, by simp, by simp [ints, zs]⟩
  have hz := x0.size
  have e : ((H1.push (.cells 1 false [.int .i64 (a : Int), .int .i64 (b : Int)])).young H0.size).blk H1.size = .cells 1 false [.int .i64 (a : Int), .int .i64 (b : Int)] := by
    rw [young_blk, if_neg (by omega)]; exact AH.push_same _ _
  unfold AH.sans
  rcases h with ⟨rfl, _⟩ | ⟨c, rfl, h2, h3⟩
  · exact e
  · simp only
    have := AH.cells_lt (x.cells h3)
    rw [put_blk_ne (by omega)]; exact e
end Go.Proofs.Ytopbfmhajbjepaa
