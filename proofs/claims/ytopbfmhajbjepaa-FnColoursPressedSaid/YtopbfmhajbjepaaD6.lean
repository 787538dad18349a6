/- Contracts: what is drawn for colours. -/
import Derived.Test.YtopbfmhajbjepaaD5
namespace Go.Proofs.Ytopbfmhajbjepaa
open Go
set_option linter.unusedSimpArgs false
set_option linter.unusedVariables false

/-- The bytes that come in. -/
structure CodeAt (H : AH) (v : AV) (l : List Int) : Prop where
  dat : BytesAt H v l
  byte : ∀ x ∈ l, 0 ≤ x ∧ x < 256
  len : l.length < 4611686018427387904
theorem CodeAt.ext {H H' : AH} {v : AV} {l : List Int} (h : CodeAt H v l) (x : Ext H H') : CodeAt H' v l := ⟨SliceAt.ext h.dat x, h.byte, h.len⟩
theorem CodeAt.cur {H : AH} {v : AV} {l : List Int} (h : CodeAt H v l) : Cur (H.push (.cells 3 false [v, .int .i64 0, .int .u64 0])) H.size 0 :=
  ⟨v, l, 0, 0, ⟨AH.push_same _ _, SliceAt.ext h.dat (Ext.push _ _), h.byte, h.len, by
    rcases h.dat with ⟨e, _⟩ | ⟨b, o, n, ro, xs, e, hb, _⟩
    · exact .inl e
    · right; rw [e]; exact AH.cells_lt hb⟩, Nat.le_refl _⟩

@[go_sem] theorem cur_mk {v : AV} (hv : v.one = true) : abuild TA 99 [(0, v)] = some (.agg [v, .int .i64 0, .int .u64 0]) := by
  cases v <;> simp [AV.one] at hv <;> kernel_rfl
@[go_sem] theorem cur_box {H : AH} {v : AV} (hv : v.one = true) : abox H (.agg [v, .int .i64 0, .int .u64 0]) = some (.ptr H.size 0, H.push (.cells 3 false [v, .int .i64 0, .int .u64 0])) := by
  cases v <;> simp_all [abox, AV.known, AV.cells, AV.one]
@[go_sem] theorem st_graph_newd {H : AH} {x y s : AV} {o : Bool} (hs : s.one = true) : astore1 TA (H.push (.cells 2 false [x, y])) 26 (.ptr H.size 0) (.agg [s, .bool o]) = some (.undef, H.push (.cells 2 false [s, .bool o])) := by
  rw [st_graph (AH.push_same _ _) hs, push_put]
def ColR (n0 : Nat) (v : AV) (H : AH) : Prop := ∃ g, ∃ m : Nat, ∃ s, v = .tup [g, .int .i64 m, s] ∧ m ≤ 7 ∧ DrawnW n0 H g ∧ NewL n0 H s 201

set_option maxRecDepth 10000 in
theorem drawIsColours_ok (v : AV) (l : List Int) (H : AH) (hc : CodeAt H v l) : E 147 [v] H (Gives H (ColR H.size)) := by
  have hv := SliceAt.isOne hc.dat
  refine Ev.enterK (fn := Try.f147) rfl Try.func147 rfl (by kernel_rfl) (by simp [Try.ntmps147]) ?_
  simp (disch := first | exact dsch | kernel_rfl) only [go_sem, ↓reduceIte, Nat.reduceEqDiff, Nat.reduceLT, Nat.reduceAdd, reduceCtorEq, Int.reduceToNat, Try.ntmps147, Try.results147]
  generalize hH : H.push (.cells 2 false [.nilsl, .bool false]) = Hc
  have hHs : Hc.size = H.size + 1 := by rw [← hH]; rfl
  have hHx : Ext H Hc := by rw [← hH]; exact Ext.push _ _
  have hHb : Hc.blk H.size = .cells 2 false [.nilsl, .bool false] := by rw [← hH]; exact AH.push_same _ _
  have cu := (hc.ext hHx).cur
  have xb : Ext Hc (Hc.push (.cells 3 false [v, .int .i64 0, .int .u64 0])) := Ext.push _ _
  have hbs : (Hc.push (.cells 3 false [v, .int .i64 0, .int .u64 0])).size = Hc.size + 1 := rfl
  generalize Hc.push (.cells 3 false [v, .int .i64 0, .int .u64 0]) = Hb at *
  generalize hb0 : Hc.size = b at *
  refine AOK_calls (coloured_ok b 0 Hb cu (by omega)) ?_
  rintro _ H1 ⟨b1, c1, g, m, rfl, hm, s, o, l', rfl, is, hl, hs⟩
  have hso := SliceAt.isOne is
  simp (disch := first | exact dsch | kernel_rfl) only [go_sem, ↓reduceIte, Nat.reduceEqDiff, Nat.reduceLT, Nat.reduceAdd, reduceCtorEq, Int.reduceToNat, Try.ntmps147, Try.results147]
  generalize hH2 : H1.push (.cells 2 false [s, .bool o]) = H2
  have x2 : Ext H1 H2 := by rw [← hH2]; exact Ext.push _ _
  have bx2 : H2.blk H1.size = .cells 2 false [s, .bool o] := by rw [← hH2]; exact AH.push_same _ _
  have hs2 : H2.size = H1.size + 1 := by rw [← hH2]; rfl
  generalize hcb : H1.size = cb at *
  have hs1 := b1.size
  have k2 : H2.blk H.size = .cells 2 false [.nilsl, .bool false] := x2.cells (b1.cells (by omega) (xb.cells hHb))
  refine AK.drawW (fun k => k = b ∨ k = H.size) [0] (by kernel_rfl) ?_
  have dl2 : (H2.drop (fun k => k = b ∨ k = H.size)).blk cb = .cells 2 false [s, .bool o] := by rw [drop_blk (by omega)]; exact bx2
  simp (disch := first | exact dsch | kernel_rfl) only [go_sem, ↓reduceIte, Nat.reduceEqDiff, Nat.reduceLT, Nat.reduceAdd, reduceCtorEq, Int.reduceToNat, Try.ntmps147, Try.results147, ld_graph bx2]
  refine ASK_load ?_ ?_
  · exact ld_graph dl2 (Ext.refl _)
  simp (disch := first | exact dsch | kernel_rfl) only [go_sem, ↓reduceIte, Nat.reduceEqDiff, Nat.reduceLT, Nat.reduceAdd, reduceCtorEq, Int.reduceToNat, Try.ntmps147, Try.results147, ld_graph bx2]
  refine AOK_callw (by kernel_rfl) (by rfl) (colours_ok b 600 m s o l' H2 (c1.ext x2) (by omega) (is.ext x2) hl hm) ?_
  rintro sl H3 ⟨b3, c3, nl⟩
  refine ⟨QX.but b3 (.inl rfl), ?_⟩
  have k3 := b3.cells (show H.size ≠ b by omega) k2
  have hl3 : H.size < H3.size := AH.cells_lt k3
  simp (disch := first | exact dsch | kernel_rfl) only [go_sem, ↓reduceIte, Nat.reduceEqDiff, Nat.reduceLT, Nat.reduceAdd, reduceCtorEq, Int.reduceToNat, Try.ntmps147, Try.results147, st_graph (o := o) k3 hso]
  refine (ASK_w (by rfl) (by kernel_rfl) (QX.put (.inr rfl))).2 ?_
  simp (disch := first | exact dsch | kernel_rfl) only [go_sem, ↓reduceIte, Nat.reduceEqDiff, Nat.reduceLT, Nat.reduceAdd, reduceCtorEq, Int.reduceToNat, Try.ntmps147, Try.results147]
  have e3 : Ext H H3 := But.new (hHx.trans xb) (by omega) (b1.trans ((x2.but b).trans b3))
  have hs2' := b3.size
  refine ⟨e3.put (Nat.le_refl _) _, _, m, _, rfl, hm, ⟨s, o, l', rfl, ?_, hl, hs.imp id fun h => by omega⟩, ?_⟩
  · exact (But.put H.size H3 _).slice (hs.imp id fun h => by omega) (b3.slice (hs.imp id fun h => by omega) (is.ext x2))
  · obtain ⟨q, q1, q2, q3⟩ := nl
    exact ⟨q, (But.put H.size H3 _).slice (q3.imp id fun h => by omega) q1, by omega, q3.imp id fun h => by omega⟩

theorem drawEffectColours_ok (v : AV) (l : List Int) (H : AH) (hc : CodeAt H v l) : E 30 [v] H (Gives H (ColR H.size)) := by
  refine Ev.enterK (fn := Try.f30) rfl Try.func30 rfl (by kernel_rfl) (by simp [Try.ntmps30]) ?_
  simp (disch := first | exact dsch | kernel_rfl) only [go_sem, ↓reduceIte, Nat.reduceEqDiff, Nat.reduceLT, Nat.reduceAdd, reduceCtorEq, Int.reduceToNat, Try.ntmps30, Try.results30]
  generalize hH : H.push (.cells 2 false [.nilsl, .bool false]) = Hc
  have hHs : Hc.size = H.size + 1 := by rw [← hH]; rfl
  have hHx : Ext H Hc := by rw [← hH]; exact Ext.push _ _
  have hHb : Hc.blk H.size = .cells 2 false [.nilsl, .bool false] := by rw [← hH]; exact AH.push_same _ _
  refine AOK_gives (drawIsColours_ok v l Hc (hc.ext hHx)) ?_
  rintro _ H1 x1 ⟨g, m, sl, rfl, hm, ⟨s, o, l', rfl, is, hl, hs⟩, q, q1, q2, q3⟩
  have hso := SliceAt.isOne is
  have k1 := x1.cells hHb
  have hl1 : H.size < H1.size := AH.cells_lt k1
  simp (disch := first | exact dsch | kernel_rfl) only [go_sem, ↓reduceIte, Nat.reduceEqDiff, Nat.reduceLT, Nat.reduceAdd, reduceCtorEq, Int.reduceToNat, Try.ntmps30, Try.results30, st_graph (o := o) k1 hso]
  exact ⟨(hHx.trans x1).put (Nat.le_refl _) _, _, m, _, rfl, hm, ⟨s, o, l', rfl, (But.put H.size H1 _).slice (hs.imp id fun h => by omega) is, hl, hs.imp id fun h => by omega⟩,
    q, (But.put H.size H1 _).slice (q3.imp id fun h => by omega) q1, q2, q3.imp id fun h => by omega⟩

set_option maxRecDepth 10000 in
theorem drawPeriodOf_ok (v : AV) (l : List Int) (H : AH) (hc : CodeAt H v l) : E 34 [v] H (Gives H (ColR H.size)) := by
  have hv := SliceAt.isOne hc.dat
  refine Ev.enterK (fn := Try.f34) rfl Try.func34 rfl (by kernel_rfl) (by simp [Try.ntmps34]) ?_
  simp (disch := first | exact dsch | kernel_rfl) only [go_sem, ↓reduceIte, Nat.reduceEqDiff, Nat.reduceLT, Nat.reduceAdd, reduceCtorEq, Int.reduceToNat, Try.ntmps34, Try.results34]
  generalize hH : H.push (.cells 2 false [.nilsl, .bool false]) = Hc
  have hHs : Hc.size = H.size + 1 := by rw [← hH]; rfl
  have hHx : Ext H Hc := by rw [← hH]; exact Ext.push _ _
  have hHb : Hc.blk H.size = .cells 2 false [.nilsl, .bool false] := by rw [← hH]; exact AH.push_same _ _
  have cu := (hc.ext hHx).cur
  have xb : Ext Hc (Hc.push (.cells 3 false [v, .int .i64 0, .int .u64 0])) := Ext.push _ _
  have hbs : (Hc.push (.cells 3 false [v, .int .i64 0, .int .u64 0])).size = Hc.size + 1 := rfl
  generalize Hc.push (.cells 3 false [v, .int .i64 0, .int .u64 0]) = Hb at *
  generalize hb0 : Hc.size = b at *
  refine AOK_calls (coloured_ok b 0 Hb cu (by omega)) ?_
  rintro _ H1 ⟨b1, c1, g, m, rfl, hm, s, o, l', rfl, is, hl, hs⟩
  have hso := SliceAt.isOne is
  simp (disch := first | exact dsch | kernel_rfl) only [go_sem, ↓reduceIte, Nat.reduceEqDiff, Nat.reduceLT, Nat.reduceAdd, reduceCtorEq, Int.reduceToNat, Try.ntmps34, Try.results34]
  generalize hH2 : H1.push (.cells 2 false [s, .bool o]) = H2
  have x2 : Ext H1 H2 := by rw [← hH2]; exact Ext.push _ _
  have bx2 : H2.blk H1.size = .cells 2 false [s, .bool o] := by rw [← hH2]; exact AH.push_same _ _
  have hs2 : H2.size = H1.size + 1 := by rw [← hH2]; rfl
  generalize hcb : H1.size = cb at *
  have hs1 := b1.size
  have k2 : H2.blk H.size = .cells 2 false [.nilsl, .bool false] := x2.cells (b1.cells (by omega) (xb.cells hHb))
  refine AK.drawW (fun k => k = b ∨ k = H.size) [0] (by kernel_rfl) ?_
  have dl2 : (H2.drop (fun k => k = b ∨ k = H.size)).blk cb = .cells 2 false [s, .bool o] := by rw [drop_blk (by omega)]; exact bx2
  simp (disch := first | exact dsch | kernel_rfl) only [go_sem, ↓reduceIte, Nat.reduceEqDiff, Nat.reduceLT, Nat.reduceAdd, reduceCtorEq, Int.reduceToNat, Try.ntmps34, Try.results34, ld_graph bx2]
  refine ASK_load ?_ ?_
  · exact ld_graph dl2 (Ext.refl _)
  simp (disch := first | exact dsch | kernel_rfl) only [go_sem, ↓reduceIte, Nat.reduceEqDiff, Nat.reduceLT, Nat.reduceAdd, reduceCtorEq, Int.reduceToNat, Try.ntmps34, Try.results34, ld_graph bx2]
  refine AOK_callw (by kernel_rfl) (by rfl) (word7_ok b 600 s o l' H2 (c1.ext x2) (by omega) (is.ext x2) hl (hs.imp id fun h => by omega)) ?_
  rintro sl H3 ⟨b3, c3, nl⟩
  refine ⟨QX.but b3 (.inl rfl), ?_⟩
  have k3 := b3.cells (show H.size ≠ b by omega) k2
  have hl3 : H.size < H3.size := AH.cells_lt k3
  simp (disch := first | exact dsch | kernel_rfl) only [go_sem, ↓reduceIte, Nat.reduceEqDiff, Nat.reduceLT, Nat.reduceAdd, reduceCtorEq, Int.reduceToNat, Try.ntmps34, Try.results34, st_graph (o := o) k3 hso]
  refine (ASK_w (by rfl) (by kernel_rfl) (QX.put (.inr rfl))).2 ?_
  simp (disch := first | exact dsch | kernel_rfl) only [go_sem, ↓reduceIte, Nat.reduceEqDiff, Nat.reduceLT, Nat.reduceAdd, reduceCtorEq, Int.reduceToNat, Try.ntmps34, Try.results34]
  have e3 : Ext H H3 := But.new (hHx.trans xb) (by omega) (b1.trans ((x2.but b).trans b3))
  have hs2' := b3.size
  refine ⟨e3.put (Nat.le_refl _) _, _, m, _, rfl, hm, ⟨s, o, l', rfl, ?_, hl, hs.imp id fun h => by omega⟩, ?_⟩
  · exact (But.put H.size H3 _).slice (hs.imp id fun h => by omega) (b3.slice (hs.imp id fun h => by omega) (is.ext x2))
  · obtain ⟨q, q1, q2, q3⟩ := nl
    exact ⟨q, (But.put H.size H3 _).slice (q3.imp id fun h => by omega) q1, by omega, q3.imp id fun h => by omega⟩

def PressR (n0 : Nat) (v : AV) (H : AH) : Prop := ∃ g, ∃ m : Nat, ∃ s t, v = .tup [g, .int .i64 m, s, t] ∧ m ≤ 7 ∧ DrawnW n0 H g ∧ NewL n0 H s 201 ∧ NewL n0 H t 201
set_option maxRecDepth 10000 in
theorem drawPressColours_ok (v : AV) (l : List Int) (H : AH) (hc : CodeAt H v l) : E 24 [v] H (Gives H (PressR H.size)) := by
  have hv := SliceAt.isOne hc.dat
  refine Ev.enterK (fn := Try.f24) rfl Try.func24 rfl (by kernel_rfl) (by simp [Try.ntmps24]) ?_
  simp (disch := first | exact dsch | kernel_rfl) only [go_sem, ↓reduceIte, Nat.reduceEqDiff, Nat.reduceLT, Nat.reduceAdd, reduceCtorEq, Int.reduceToNat, Try.ntmps24, Try.results24]
  generalize hH : H.push (.cells 2 false [.nilsl, .bool false]) = Hc
  have hHs : Hc.size = H.size + 1 := by rw [← hH]; rfl
  have hHx : Ext H Hc := by rw [← hH]; exact Ext.push _ _
  have hHb : Hc.blk H.size = .cells 2 false [.nilsl, .bool false] := by rw [← hH]; exact AH.push_same _ _
  have cu := (hc.ext hHx).cur
  have xb : Ext Hc (Hc.push (.cells 3 false [v, .int .i64 0, .int .u64 0])) := Ext.push _ _
  have hbs : (Hc.push (.cells 3 false [v, .int .i64 0, .int .u64 0])).size = Hc.size + 1 := rfl
  generalize Hc.push (.cells 3 false [v, .int .i64 0, .int .u64 0]) = Hb at *
  generalize hb0 : Hc.size = b at *
  refine AOK_calls (coloured_ok b 0 Hb cu (by omega)) ?_
  rintro _ H1 ⟨b1, c1, g, m, rfl, hm, s, o, l', rfl, is, hl, hs⟩
  have hso := SliceAt.isOne is
  simp (disch := first | exact dsch | kernel_rfl) only [go_sem, ↓reduceIte, Nat.reduceEqDiff, Nat.reduceLT, Nat.reduceAdd, reduceCtorEq, Int.reduceToNat, Try.ntmps24, Try.results24]
  generalize hH2 : H1.push (.cells 2 false [s, .bool o]) = H2
  have x2 : Ext H1 H2 := by rw [← hH2]; exact Ext.push _ _
  have bx2 : H2.blk H1.size = .cells 2 false [s, .bool o] := by rw [← hH2]; exact AH.push_same _ _
  have hs2 : H2.size = H1.size + 1 := by rw [← hH2]; rfl
  generalize hcb : H1.size = cb at *
  have hs1 := b1.size
  have k2 : H2.blk H.size = .cells 2 false [.nilsl, .bool false] := x2.cells (b1.cells (by omega) (xb.cells hHb))
  refine AK.drawW (fun k => k = b ∨ k = H.size) [0, 7] (by kernel_rfl) ?_
  have dl2 : (H2.drop (fun k => k = b ∨ k = H.size)).blk cb = .cells 2 false [s, .bool o] := by rw [drop_blk (by omega)]; exact bx2
  simp (disch := first | exact dsch | kernel_rfl) only [go_sem, ↓reduceIte, Nat.reduceEqDiff, Nat.reduceLT, Nat.reduceAdd, reduceCtorEq, Int.reduceToNat, Try.ntmps24, Try.results24, ld_graph bx2]
  refine ASK_load ?_ ?_
  · exact ld_graph dl2 (Ext.refl _)
  simp (disch := first | exact dsch | kernel_rfl) only [go_sem, ↓reduceIte, Nat.reduceEqDiff, Nat.reduceLT, Nat.reduceAdd, reduceCtorEq, Int.reduceToNat, Try.ntmps24, Try.results24, ld_graph bx2]
  refine AOK_callw (by kernel_rfl) (by rfl) (colours_ok b 600 m s o l' H2 (c1.ext x2) (by omega) (is.ext x2) hl hm) ?_
  rintro sl H3' ⟨b3, c3, nl⟩
  refine ⟨QX.but b3 (.inl rfl), ?_⟩
  have bx3 := b3.cells (show cb ≠ b by omega) bx2
  have dl3 : (H3'.drop (fun k => k = b ∨ k = H.size)).blk cb = .cells 2 false [s, .bool o] := by rw [drop_blk (by omega)]; exact bx3
  have is3 : IntsAt H3' s l' := b3.slice (hs.imp id fun h => by omega) (is.ext x2)
  have hs3 := b3.size
  simp (disch := first | exact dsch | kernel_rfl) only [go_sem, ↓reduceIte, Nat.reduceEqDiff, Nat.reduceLT, Nat.reduceAdd, reduceCtorEq, Int.reduceToNat, Try.ntmps24, Try.results24, ld_graph bx3]
  refine ASK_load ?_ ?_
  · exact ld_graph dl3 (Ext.refl _)
  simp (disch := first | exact dsch | kernel_rfl) only [go_sem, ↓reduceIte, Nat.reduceEqDiff, Nat.reduceLT, Nat.reduceAdd, reduceCtorEq, Int.reduceToNat, Try.ntmps24, Try.results24, ld_graph bx3]
  refine AOK_callw (by kernel_rfl) (by rfl) (word7_ok b 700 s o l' H3' c3 (by omega) is3 hl (hs.imp id fun h => by omega)) ?_
  rintro sm H3 ⟨b4, c4, nm⟩
  refine ⟨QX.but b4 (.inl rfl), ?_⟩
  have b34 := b3.trans b4
  have k3 := b34.cells (show H.size ≠ b by omega) k2
  have hl3 : H.size < H3.size := AH.cells_lt k3
  simp (disch := first | exact dsch | kernel_rfl) only [go_sem, ↓reduceIte, Nat.reduceEqDiff, Nat.reduceLT, Nat.reduceAdd, reduceCtorEq, Int.reduceToNat, Try.ntmps24, Try.results24, st_graph (o := o) k3 hso]
  refine (ASK_w (by rfl) (by kernel_rfl) (QX.put (.inr rfl))).2 ?_
  simp (disch := first | exact dsch | kernel_rfl) only [go_sem, ↓reduceIte, Nat.reduceEqDiff, Nat.reduceLT, Nat.reduceAdd, reduceCtorEq, Int.reduceToNat, Try.ntmps24, Try.results24]
  have e3 : Ext H H3 := But.new (hHx.trans xb) (by omega) (b1.trans ((x2.but b).trans b34))
  have nl' := nl.but b4 (by omega)
  refine ⟨e3.put (Nat.le_refl _) _, _, m, _, _, rfl, hm, ⟨s, o, l', rfl, ?_, hl, hs.imp id fun h => by omega⟩, ?_, ?_⟩
  · exact (But.put H.size H3 _).slice (hs.imp id fun h => by omega) (b34.slice (hs.imp id fun h => by omega) (is.ext x2))
  · obtain ⟨q, q1, q2, q3⟩ := nl'
    exact ⟨q, (But.put H.size H3 _).slice (q3.imp id fun h => by omega) q1, by omega, q3.imp id fun h => by omega⟩
  · obtain ⟨q, q1, q2, q3⟩ := nm
    exact ⟨q, (But.put H.size H3 _).slice (q3.imp id fun h => by omega) q1, by omega, q3.imp id fun h => by omega⟩

end Go.Proofs.Ytopbfmhajbjepaa
