import Derived.Test.YtopbfmhajbjepaaE6
namespace Go.Proofs.Ytopbfmhajbjepaa
open Go
set_option linter.unusedSimpArgs false
set_option linter.unusedVariables false

theorem PrR.both {n0 : Nat} {l q w : List Int} {o : Bool} {m : Nat} {v : AV} {H : AH} (h : PrR n0 l o m q w v H) : ∃ ov, v = .tup [ov, .bool (pressB l m q w)] ∧ IntsAt H ov (if pressB l m q w then zs (prL (nn l) o m (nn q) w) else []) := by
  rcases h with ⟨h, rfl⟩ | ⟨h, c, rfl, _, hr⟩
  · exact ⟨_, by rw [h], by rw [h]; exact .inl ⟨rfl, rfl⟩⟩
  · refine ⟨_, by rw [h], ?_⟩
    rw [h, if_pos rfl]
    have := hr.nats
    have e : (prL (nn l) o m (nn q) w).length = q.length := by simp [prL]
    rwa [e] at this
theorem EffR.both {n0 : Nat} {l q : List Int} {o : Bool} {m : Nat} {v : AV} {H : AH} (h : EffR n0 l o m q v H) : ∃ ov, v = .tup [ov, .bool (colL l m q)] ∧ IntsAt H ov (if colL l m q then zs (efL (nn l) o m (nn q)) else []) := by
  rcases h with ⟨h, rfl⟩ | ⟨h, c, rfl, _, hr⟩
  · exact ⟨_, by rw [h], by rw [h]; exact .inl ⟨rfl, rfl⟩⟩
  · refine ⟨_, by rw [h], ?_⟩
    rw [h, if_pos rfl]
    have := hr.nats
    have e : (efL (nn l) o m (nn q)).length = q.length := by simp [efL]
    rwa [e] at this
theorem ParR.both {n0 : Nat} {cs : List Int} {v : AV} {H : AH} (h : ParR n0 cs v H) : ∃ ov, v = .tup [ov, .bool (parB cs)] ∧ IntsAt H ov (if parB cs then parL cs else []) := by
  rcases h with ⟨h, rfl⟩ | ⟨h, s, rfl, h1, _⟩
  · exact ⟨_, by rw [h], by rw [h]; exact .inl ⟨rfl, rfl⟩⟩
  · exact ⟨_, by rw [h], by rw [h, if_pos rfl]; exact h1⟩
section
variable {P : Program} {T : TT} {prims : PrimT} {n : Nat} {ks : List KI} {tm : Tm} {H : AH} {Q : AExit → Tm → AH → Prop}
/-- A branch that may be left out, and what follows. -/
theorem ABK_mid {t : Bool} {x y : Code} (ds : List Nat) (hds : wr ds x = true) (M : Tm → AH → Prop) (hx : t = true → ∀ K : Tm → AH → Prop, (∀ tm2 H2, M tm2 H2 → K tm2 H2) → AK P T prims n x (.body K :: ks) tm H Q) (h0 : t = false → M tm H)
    (hy : ∀ tm' H', (∀ t, ds.elem t = false → tm' t = tm t) → M tm' H' → AK P T prims n y ks tm' H' Q) : ABK P T prims n (.bool t) x .skip (.code y :: ks) tm H Q := by
  cases t
  · exact ABr_false.2 (AK_skip.2 (hy tm H (fun _ _ => rfl) (h0 rfl)))
  · exact ABr_true.2 (AK.mid ds hds M (hx rfl) hy)
end
theorem wf_byte {n : Int} (h : (Lit.int .u8 n).wf = true) : 0 ≤ n ∧ n < 256 := by
  have e1 : IntKind.u8.min = 0 := rfl
  have e2 : IntKind.u8.max = 255 := rfl
  simp [Lit.wf, e1, e2] at h
  omega

theorem colL_and {l q : List Int} {m : Int} : (colB l m && colL l m q) = colL l m q := by
  unfold colL; cases colB l m <;> simp
def perX (l : List Int) (o : Bool) (m : Nat) (w : List Int) (b : Bool) : Int := if b then perN l o m w else 0
theorem perV_eq (l : List Int) (o : Bool) (m : Nat) (w : List Int) : perV l o m w = .tup [.int .i64 (perX l o m w (wordB l m w)), .bool (wordB l m w)] := by
  unfold perV perX; cases wordB l m w <;> rfl
theorem ifL_len {b : Bool} {l : List Int} {k : Nat} (h : l.length < k) : (if b = true then l else []).length < k := by
  split
  · exact h
  · simp; omega

theorem colL_zs {l : List Int} {m : Nat} {x : List Nat} (h : colB l m = true) (hl : x.length = l.length) (hx : ∀ i < x.length, x.getD i 0 < m) : colL l m (zs x) = true := by
  have hm := (colB_ok h).mod
  simp only [colL, h, Bool.true_and, Bool.and_eq_true, decide_eq_true_eq, List.all_eq_true]
  refine ⟨by simpa using hl, fun y hy => ?_⟩
  obtain ⟨i, hi, rfl⟩ := List.getElem_of_mem hy
  have hi' : i < x.length := by simpa using hi
  have := hx i hi'
  have e : (zs x)[i] = ((x.getD i 0 : Nat) : Int) := by simp [zs, List.getD, hi']
  rw [e]; omega

set_option maxRecDepth 20000 in
theorem law_FnColoursPressed (l0 l1 : List Int) (v0 v1 : AV) (H : AH) (h0 : SliceAt H v0 1 (l0.map (AV.int .u8))) (n0 : l0.length ≤ 140737488351232) (w0 : ∀ n ∈ l0, (Lit.int .u8 n).wf = true)
    (h1 : SliceAt H v1 1 (l1.map (AV.int .u8))) (n1 : l1.length ≤ 140737488351232) (w1 : ∀ n ∈ l1, (Lit.int .u8 n).wf = true) : E 5 [v0, v1] H fun v _ => v = .bool true := by
  have c0 : CodeAt H v0 l0 := ⟨h0, fun x hx => wf_byte (w0 x hx), by omega⟩
  have c1 : CodeAt H v1 l1 := ⟨h1, fun x hx => wf_byte (w1 x hx), by omega⟩
  refine Ev.enterK (fn := Try.f5) rfl Try.func5 rfl (by kernel_rfl) (by simp [Try.ntmps5]) ?_
  simp (disch := first | exact dsch | kernel_rfl) only [go_sem, ↓reduceIte, Nat.reduceEqDiff, Nat.reduceLT, Nat.reduceAdd, reduceCtorEq, Int.reduceToNat, Try.ntmps5, Try.results5]
  refine AOK_is (big_ok l0 l1 v0 v1 H h0 h1 (by omega) (by omega)) ?_
  intro H1 x1
  generalize (decide (1048576 < l0.length ∨ 1048576 < l0.length + l1.length)) = bg
  cases bg
  · simp (disch := first | exact dsch | kernel_rfl) only [go_sem, ↓reduceIte, Nat.reduceEqDiff, Nat.reduceLT, Nat.reduceAdd, reduceCtorEq, Int.reduceToNat, Try.ntmps5, Try.results5]
    refine AOK_gives (drawPressColours_ok v0 l0 H1 (c0.ext x1)) ?_
    rintro _ H2 x2 ⟨g, m, t, u, rfl, hm, ⟨s, o, l, rfl, is, hl, _⟩, ⟨q, iq, hq, _⟩, ⟨w, iw, hw, _⟩⟩
    have hso := SliceAt.isOne is
    simp (disch := first | exact dsch | kernel_rfl) only [go_sem, ↓reduceIte, Nat.reduceEqDiff, Nat.reduceLT, Nat.reduceAdd, reduceCtorEq, Int.reduceToNat, Try.ntmps5, Try.results5]
    generalize hH3 : H2.push (.cells 2 false [s, .bool o]) = H3
    have x3 : Ext H2 H3 := by rw [← hH3]; exact Ext.push _ _
    have bx3 : H3.blk H2.size = .cells 2 false [s, .bool o] := by rw [← hH3]; exact AH.push_same _ _
    refine AOK_gives (implPress_ok l q w m o s t u _ (SliceAt.ext is (by exact xt)) (by omega) (SliceAt.ext iq (by exact xt)) (by omega) (SliceAt.ext iw (by exact xt)) (by omega) hm) ?_
    intro _ H4 x4 p4
    obtain ⟨out, rfl, io⟩ := p4.both
    simp (disch := first | exact dsch | kernel_rfl) only [go_sem, ↓reduceIte, Nat.reduceEqDiff, Nat.reduceLT, Nat.reduceAdd, reduceCtorEq, Int.reduceToNat, Try.ntmps5, Try.results5, ld_graph bx3]
    refine AOK_gives (specPress_ok l q w m o s t u _ (SliceAt.ext is (by exact xt)) (by omega) (SliceAt.ext iq (by exact xt)) (by omega) (SliceAt.ext iw (by exact xt)) (by omega) hm) ?_
    intro _ H5 x5 p5
    obtain ⟨right, rfl, ir⟩ := p5.both
    generalize hb0 : pressB l m q w = b0 at *
    have db : decide (b0 = b0) = true := decide_eq_true rfl
    have lp : (if b0 = true then zs (prL (nn l) o m (nn q) w) else []).length < 1000000 := by
      split
      · simp [prL]; omega
      · simp
    simp (disch := first | exact dsch | kernel_rfl) only [go_sem, ↓reduceIte, Nat.reduceEqDiff, Nat.reduceLT, Nat.reduceAdd, reduceCtorEq, Int.reduceToNat, Try.ntmps5, Try.results5, ld_graph bx3, db, Bool.not_true]
    refine AOK_is (hSame_ok _ _ out right _ (SliceAt.ext io (by exact xt)) ir (by omega) (by omega)) ?_
    intro H6 x6
    rw [decide_eq_true rfl]
    simp (disch := first | exact dsch | kernel_rfl) only [go_sem, ↓reduceIte, Nat.reduceEqDiff, Nat.reduceLT, Nat.reduceAdd, reduceCtorEq, Int.reduceToNat, Try.ntmps5, Try.results5, ld_graph bx3, db, Bool.not_true]
    have x06 : Ext H H6 := by exact xt
    refine ABK_mid [4, 13, 14, 15, 16, 17, 18, 19, 20, 21, 22, 23, 24, 25, 92, 93, 94, 95, 96, 97, 98, 99, 100, 101, 102, 103, 104, 105, 106, 107, 108, 109, 110, 111, 112, 113, 114, 115, 116, 117, 118, 119, 120, 121, 122, 123, 124, 125, 126, 127, 128, 129, 130, 131, 132, 133, 134, 135, 136, 137, 138, 139, 140, 141, 142, 143, 144, 145, 146, 147, 148, 149, 150, 151, 152, 153, 154, 155, 156, 157, 158, 159, 160, 161, 162, 163, 164, 165, 166, 167, 168, 169, 170, 171, 172, 173, 174, 175, 176, 177, 178, 179, 180, 181, 182, 183, 184, 185] (by kernel_rfl) (fun _ H' => Ext H H') ?_ (fun _ => x06) ?_
    · rintro rfl K hK
      have xw : Ext H H6 ∧ True := ⟨x06, trivial⟩
      clear x06
      rw [if_pos rfl] at io lp
      clear ir
      have hpb := hb0
      simp only [pressB, Bool.and_eq_true] at hpb
      obtain ⟨hwb, hcl⟩ := hpb
      obtain ⟨hcb, _, hall⟩ := wordB_true hwb
      have K9 := colL_ok hcl
      have hmod := K9.mod
      have hm0 : 0 < m := by omega
      have h10 := K9.n10
      have hle := K9.len
      have hqe := K9.ql
      have hqn := K9.qlen
      have io6 : IntsAt H6 out (zs (prL (nn l) o m (nn q) w)) := SliceAt.ext io (by exact xt)
      have x36 : Ext H3 H6 := by exact xt
      have bx6 := x36.cells bx3
      have x26 : Ext H2 H6 := x3.trans x36
      have is6 : IntsAt H6 s l := SliceAt.ext is x26
      have iq6 : IntsAt H6 t q := SliceAt.ext iq x26
      have iw6 : IntsAt H6 u w := SliceAt.ext iw x26
      clear x36 x26
      have ldg : ∀ {Hx : AH}, Ext H6 Hx → aload1 TA Hx 22 (.ptr H2.size 0) = some (s, Hx) := fun x => aload_cell (t := 22) rfl rfl (x.cells bx6) rfl
      clear p4 p5 x4 x5 x6 bx3 is iq iw io
      simp (disch := first | exact dsch | kernel_rfl) only [go_sem, ↓reduceIte, Nat.reduceEqDiff, Nat.reduceLT, Nat.reduceAdd, reduceCtorEq, Int.reduceToNat, Try.ntmps5, Try.results5, ldg, is6.len, iw6.len]
      generalize hcc : H6.size = c at *
      have row0 : RowAt (H6.push (rowBlk (List.replicate l.length 0))) c (List.replicate l.length 0) := by rw [← hcc]; exact AH.push_same _ _
      have ext0 : Ext H6 (H6.push (rowBlk (List.replicate l.length 0))) := Ext.push _ _
      generalize H6.push (rowBlk (List.replicate l.length 0)) = H7 at *
      refine (AK.count 98 [15, 98, 99, 100, 101, 102, 103, 104, 105, 106, 107, 108, 109, 110, 111, 112] (by kernel_rfl) 0 w.length (fun i tm H' => Ext H6 H' ∧ RowAt H' c (wdL l.length m (w.take i))) (by rfl) (by omega) ⟨ext0, row0⟩ ?_)
      rintro i tm8 H8 K2 g1 g2 fr8 hq8 ⟨x8, r8⟩ hK2
      by_cases hi : i < w.length
      · have hi' : (i : Int) < (w.length : Int) := by omega
        obtain ⟨y, hy⟩ := Int.eq_ofNat_of_zero_le (hall i hi).1
        have hyl : y < l.length := by have := (hall i hi).2; omega
        have hml := wdL_length (n := l.length) (m := m) (w := w.take i)
        have hyl2 : y < (wdL l.length m (w.take i)).length := by omega
        have hlt := wdL_lt (n := l.length) (w := w.take i) hm0 y
        have e1 : (((wdL l.length m (w.take i)).getD y 0 : Nat) : Int) + 1 = (((wdL l.length m (w.take i)).getD y 0 + 1 : Nat) : Int) := by omega
        have e2 : (((wdL l.length m (w.take i)).getD y 0 + 1 : Nat) : Int).tmod (m : Int) = ((((wdL l.length m (w.take i)).getD y 0 + 1) % m : Nat) : Int) := rfl
        have hmi : (m : Int) ≠ 0 := by omega
        (simp (disch := first | exact dsch | kernel_rfl) only [go_sem, ↓reduceIte, Nat.reduceEqDiff, Nat.reduceLT, Nat.reduceAdd, reduceCtorEq, Int.reduceToNat, Try.ntmps5, Try.results5, fr8, hq8, hi', iw6.ix, iw6.ld, hy, r8.ld, r8.st, e1, e2] <;> repeat' ((first | (refine AOK_is (by exact hSame_ok _ _ _ _ _ (by first | assumption | (refine SliceAt.ext (by assumption) ?_; exact xt)) (by first | assumption | (refine SliceAt.ext (by assumption) ?_; exact xt)) (by first | assumption | omega) (by first | assumption | omega)) ?_; intro Hc hxc) | refine AK.drawT (by kernel_rfl) ?_ | ((first | refine ABK_mk ?_ ?_ | refine AGK_mk ?_ ?_) <;> intro hb <;> (try simp only [decide_eq_true_eq, decide_eq_false_iff_not, Bool.not_eq_true', Bool.not_eq_false', Bool.not_not] at hb) <;> (try (exfalso; omega)) <;> (try subst hb) <;> try simp only [hb, decide_true, decide_false])) <;> try simp (disch := first | exact dsch | kernel_rfl) only [go_sem, ↓reduceIte, Nat.reduceEqDiff, Nat.reduceLT, Nat.reduceAdd, reduceCtorEq, Int.reduceToNat, Try.ntmps5, Try.results5, fr8, hq8, hi', iw6.ix, iw6.ld, hy, r8.ld, r8.st, e1, e2]))
        refine hK2 _ _ hi (by rfl) ⟨x8.put (by omega) _, ?_⟩
        rw [wdL_take hi, hy]
        exact r8.put
      · have hi' : ¬ (i : Int) < (w.length : Int) := by omega
        have ei : i = w.length := by omega
        rw [ei, List.take_length] at r8
        simp (disch := first | exact dsch | kernel_rfl) only [go_sem, ↓reduceIte, Nat.reduceEqDiff, Nat.reduceLT, Nat.reduceAdd, reduceCtorEq, Int.reduceToNat, Try.ntmps5, Try.results5, fr8, hq8, hi', ld_graph (x8.cells bx6)]
        have wl : (wdL l.length m w).length = l.length := wdL_length
        have ip : IntsAt H8 (.sl c 0 l.length) (zs (wdL l.length m w)) := by have := r8.nats; rw [wl] at this; exact this
        refine AOK_gives (implEffect_ok l (zs (wdL l.length m w)) m o s (.sl c 0 l.length) _ (SliceAt.ext is6 x8) (by omega) ip (by simp; omega) hm) ?_
        intro _ H9 x9 p9
        obtain ⟨ef, rfl, ie⟩ := p9.both
        rw [colL_zs hcb wl (fun i _ => wdL_lt hm0 i)] at ie ⊢
        rw [if_pos rfl, nn_zs] at ie
        have ie : IntsAt H9 ef (zs (effW l o m w)) := by unfold effW; rw [hle]; exact ie
        have hefl : (effW l o m w).length = (nn q).length := by unfold effW; rw [efL_length, wdL_length]; omega
        have hel : ∀ k, (effW l o m w).getD k 0 < m := by
          intro k
          unfold effW
          by_cases hk : k < (wdL (nn l).length m w).length
          · rw [efL_getD hk]; exact es_lt hm0 _ _
          · have : (efL (nn l) o m (wdL (nn l).length m w)).length ≤ k := by rw [efL_length]; omega
            simp only [List.getD, List.getElem?_eq_none this, Option.getD_none]; exact hm0
        have x69 : Ext H6 H9 := x8.trans x9
        have iq9 : IntsAt H9 t q := SliceAt.ext iq6 x69
        have io9 : IntsAt H9 out (zs (prL (nn l) o m (nn q) w)) := SliceAt.ext io6 x69
        have tq : NatsAt H9 t (nn q) := NatsAt.of iq9 K9.qzs
        have hprl : (prL (nn l) o m (nn q) w).length = (nn q).length := by simp [prL]
        have io9 : NatsAt H9 out (prL (nn l) o m (nn q) w) := io9
        have ie : NatsAt H9 ef (effW l o m w) := ie
        simp (disch := first | exact dsch | kernel_rfl) only [go_sem, ↓reduceIte, Nat.reduceEqDiff, Nat.reduceLT, Nat.reduceAdd, reduceCtorEq, Int.reduceToNat, Try.ntmps5, Try.results5, fr8, Bool.not_true, iq9.len]
        refine (AK.countx 124 [4, 18, 19, 124, 125, 126, 127, 128, 129, 130, 131, 132, 133, 134, 135, 136, 137, 138, 139, 140, 141, 142] (by kernel_rfl) 0 (nn q).length (fun j tm H' => True) (by rfl) (by omega) trivial ?_)
        rintro j tm10 H10 K3 g3 g4 fr10 hq10 hx10 _ hK3
        by_cases hj : j < (nn q).length
        · have hj' : (j : Int) < (q.length : Int) := by omega
          have hqj := K9.qlt j hj
          have hej := hel j
          have hpr : (prL (nn l) o m (nn q) w).getD j 0 = ((nn q).getD j 0 + (effW l o m w).getD j 0) % m := by
            rw [Nat.add_comm]
            simp only [prL, List.getD, List.getElem?_map, List.getElem?_range hj]
            rfl
          have e1 : (((nn q).getD j 0 : Nat) : Int) + (((effW l o m w).getD j 0 : Nat) : Int) = (((nn q).getD j 0 + (effW l o m w).getD j 0 : Nat) : Int) := by omega
          have e2 : (((nn q).getD j 0 + (effW l o m w).getD j 0 : Nat) : Int).tmod (m : Int) = ((((nn q).getD j 0 + (effW l o m w).getD j 0) % m : Nat) : Int) := rfl
          have hmi : (m : Int) ≠ 0 := by omega
          (simp (disch := first | exact dsch | kernel_rfl) only [go_sem, ↓reduceIte, Nat.reduceEqDiff, Nat.reduceLT, Nat.reduceAdd, reduceCtorEq, Int.reduceToNat, Try.ntmps5, Try.results5, fr10, hq10, fr8, hj', tq.ix, tq.ld, ie.ix, ie.ld, io9.ix, io9.ld, e1, e2, hpr, eq_self, decide_true, Bool.not_true] <;> repeat' ((first | (refine AOK_is (by exact hSame_ok _ _ _ _ _ (by first | assumption | (refine SliceAt.ext (by assumption) ?_; exact xt)) (by first | assumption | (refine SliceAt.ext (by assumption) ?_; exact xt)) (by first | assumption | omega) (by first | assumption | omega)) ?_; intro Hc hxc) | refine AK.drawT (by kernel_rfl) ?_ | ((first | refine ABK_mk ?_ ?_ | refine AGK_mk ?_ ?_) <;> intro hb <;> (try simp only [decide_eq_true_eq, decide_eq_false_iff_not, Bool.not_eq_true', Bool.not_eq_false', Bool.not_not] at hb) <;> (try (exfalso; omega)) <;> (try subst hb) <;> try simp only [hb, decide_true, decide_false])) <;> try simp (disch := first | exact dsch | kernel_rfl) only [go_sem, ↓reduceIte, Nat.reduceEqDiff, Nat.reduceLT, Nat.reduceAdd, reduceCtorEq, Int.reduceToNat, Try.ntmps5, Try.results5, fr10, hq10, fr8, hj', tq.ix, tq.ld, ie.ix, ie.ld, io9.ix, io9.ld, e1, e2, hpr, eq_self, decide_true, Bool.not_true]))
          exact hK3 _ _ hj (by rfl) (by exact xt) trivial
        · have hj' : ¬ (j : Int) < (q.length : Int) := by omega
          have x610 : Ext H6 H10 := x69.trans hx10
          simp (disch := first | exact dsch | kernel_rfl) only [go_sem, ↓reduceIte, Nat.reduceEqDiff, Nat.reduceLT, Nat.reduceAdd, reduceCtorEq, Int.reduceToNat, Try.ntmps5, Try.results5, fr10, hq10, fr8, hj', ld_graph (x610.cells bx6)]
          clear tq io9 ie iq9 ip
          refine AOK_is (implPeriod_ok l w m o s u _ (SliceAt.ext is6 x610) (by omega) (SliceAt.ext iw6 x610) (by omega) hm) ?_
          intro H11 x11
          rw [perV_true hwb]
          simp (disch := first | exact dsch | kernel_rfl) only [go_sem, ↓reduceIte, Nat.reduceEqDiff, Nat.reduceLT, Nat.reduceAdd, reduceCtorEq, Int.reduceToNat, Try.ntmps5, Try.results5, fr10, fr8, Bool.not_true]
          have x611 : Ext H6 H11 := x610.trans x11
          clear hx10 x11 x610 x9 p9
          have hper : 1 ≤ perN l o m w ∧ perN l o m w ≤ m := by unfold perN; split <;> omega
          have iq11 : NatsAt H11 t (nwL l o m (nn q) w 0) := by rw [nwL_zero K9.qlt]; exact NatsAt.of (SliceAt.ext iq6 x611) K9.qzs
          refine (AK.count 23 [4, 22, 23, 24, 25, 151, 152, 153, 154, 155, 156, 157, 158, 159, 160, 161, 162, 163, 164, 165, 166, 167, 168, 169, 170, 171, 172, 173, 174, 175, 176, 177] (by kernel_rfl) 0 (perN l o m w) (fun k tm H' => Ext H6 H' ∧ ∃ nv, tm 22 = nv ∧ NatsAt H' nv (nwL l o m (nn q) w k)) (by rfl) (by omega) ⟨x611, t, by simp [go_sem, fr10, fr8], iq11⟩ ?_)
          rintro k tm12 H12 K4 g5 g6 fr12 hq12 ⟨x612, nv, hnv, inv⟩ hK4
          have hnl : (nwL l o m (nn q) w k).length = (nn q).length := nwL_length k
          by_cases hk : k < perN l o m w
          · have hk' : (k : Int) < (perN l o m w : Int) := by omega
            simp (disch := first | exact dsch | kernel_rfl) only [go_sem, ↓reduceIte, Nat.reduceEqDiff, Nat.reduceLT, Nat.reduceAdd, reduceCtorEq, Int.reduceToNat, Try.ntmps5, Try.results5, fr12, hq12, fr10, fr8, hnv, hk', ld_graph (x612.cells bx6)]
            have hcl2 : colL l m (zs (nwL l o m (nn q) w k)) = true := colL_zs hcb (by omega) (fun i hi => nwL_lt hm0 (by omega))
            have hpb2 : pressB l m (zs (nwL l o m (nn q) w k)) w = true := by simp only [pressB, hwb, hcl2, Bool.and_true]
            refine AOK_gives (implPress_ok l (zs (nwL l o m (nn q) w k)) w m o s nv u _ (SliceAt.ext is6 x612) (by omega) inv (by simp; omega) (SliceAt.ext iw6 x612) (by omega) hm) ?_
            intro _ H13 x13 p13
            obtain ⟨nx, rfl, inx⟩ := p13.both
            rw [hpb2] at inx ⊢
            rw [if_pos rfl, nn_zs, prL_nwL] at inx
            have x613 := x612.trans x13
            have hnl1 : (nwL l o m (nn q) w (k + 1)).length = (nn q).length := nwL_length _
            have lts : IntsAt H13 t q := SliceAt.ext iq6 x613
            by_cases hk1 : k + 1 < perN l o m w
            · have hk1' : (k : Int) + 1 < (perN l o m w : Int) := by omega
              have hne : decide (zs (nwL l o m (nn q) w (k + 1)) = q) = false := by
                refine decide_eq_false fun e => ?_
                have e' := congrArg nn e
                rw [nn_zs] at e'
                exact nwL_ne K9.qlt hmod hefl hel (by omega) hk1 e'
              simp (disch := first | exact dsch | kernel_rfl) only [go_sem, ↓reduceIte, Nat.reduceEqDiff, Nat.reduceLT, Nat.reduceAdd, reduceCtorEq, Int.reduceToNat, Try.ntmps5, Try.results5, fr12, hq12, fr10, fr8, Bool.not_true, hk1']
              refine AOK_is (hSame_ok _ _ nx t _ inx lts (by simp; omega) (by omega)) ?_
              intro H14 x14
              rw [hne]
              simp (disch := first | exact dsch | kernel_rfl) only [go_sem, ↓reduceIte, Nat.reduceEqDiff, Nat.reduceLT, Nat.reduceAdd, reduceCtorEq, Int.reduceToNat, Try.ntmps5, Try.results5, fr12, hq12, fr10, fr8]
              exact hK4 _ _ hk (by rfl) ⟨x613.trans x14, nx, by simp [go_sem], SliceAt.ext inx x14⟩
            · have hk1' : ¬ (k : Int) + 1 < (perN l o m w : Int) := by omega
              simp (disch := first | exact dsch | kernel_rfl) only [go_sem, ↓reduceIte, Nat.reduceEqDiff, Nat.reduceLT, Nat.reduceAdd, reduceCtorEq, Int.reduceToNat, Try.ntmps5, Try.results5, fr12, hq12, fr10, fr8, Bool.not_true, hk1']
              exact hK4 _ _ hk (by rfl) ⟨x613, nx, by simp [go_sem], inx⟩
          · have hk' : ¬ (k : Int) < (perN l o m w : Int) := by omega
            have ek : k = perN l o m w := by omega
            have hend : nwL l o m (nn q) w k = nn q := by
              rw [ek]
              by_cases h1 : perN l o m w = 1
              · rw [h1]; exact nwL_one K9.qlt h1 (by omega)
              · have : perN l o m w = m := by
                  rcases (show perN l o m w = 1 ∨ perN l o m w = m by unfold perN; split; exact .inl rfl; exact .inr rfl) with h | h
                  · exact (h1 h).elim
                  · exact h
                rw [this]; exact nwL_m K9.qlt
            rw [hend] at inv
            have inv' : IntsAt H12 nv q := by have := inv; unfold NatsAt at this; rw [← K9.qzs] at this; exact this
            simp (disch := first | exact dsch | kernel_rfl) only [go_sem, ↓reduceIte, Nat.reduceEqDiff, Nat.reduceLT, Nat.reduceAdd, reduceCtorEq, Int.reduceToNat, Try.ntmps5, Try.results5, fr12, hq12, fr10, fr8, hnv, hk', Bool.not_true]
            refine AOK_is (hSame_ok _ _ nv t _ inv' (SliceAt.ext iq6 x612) (by omega) (by omega)) ?_
            intro H13 x13
            rw [decide_eq_true rfl]
            simp (disch := first | exact dsch | kernel_rfl) only [go_sem, ↓reduceIte, Nat.reduceEqDiff, Nat.reduceLT, Nat.reduceAdd, reduceCtorEq, Int.reduceToNat, Try.ntmps5, Try.results5, fr12, hq12, fr10, fr8, Bool.not_true]
            exact hK _ _ (xw.1.trans (x612.trans x13))
    · intro tm7 H7 fr x7
      clear io ir p4 p5 x4 x5 x6 bx3 is iq iw lp db
      simp (disch := first | exact dsch | kernel_rfl) only [go_sem, ↓reduceIte, Nat.reduceEqDiff, Nat.reduceLT, Nat.reduceAdd, reduceCtorEq, Int.reduceToNat, Try.ntmps5, Try.results5, fr]
      refine AOK_gives (drawEffectColours_ok v1 l1 H7 (c1.ext x7)) ?_
      rintro _ H8 x8 ⟨g8, m8, t8, rfl, hm8, ⟨s8, o8, l8, rfl, is8, hl8, _⟩, ⟨q8, iq8, hq8, _⟩⟩
      have hso8 := SliceAt.isOne is8
      simp (disch := first | exact dsch | kernel_rfl) only [go_sem, ↓reduceIte, Nat.reduceEqDiff, Nat.reduceLT, Nat.reduceAdd, reduceCtorEq, Int.reduceToNat, Try.ntmps5, Try.results5]
      generalize hH9 : H8.push (.cells 2 false [s8, .bool o8]) = H9
      have x9 : Ext H8 H9 := by rw [← hH9]; exact Ext.push _ _
      have bx9 : H9.blk H8.size = .cells 2 false [s8, .bool o8] := by rw [← hH9]; exact AH.push_same _ _
      refine AOK_gives (implEffect_ok l8 q8 m8 o8 s8 t8 _ (SliceAt.ext is8 (by exact xt)) (by omega) (SliceAt.ext iq8 (by exact xt)) (by omega) hm8) ?_
      intro _ H10 x10 p10
      obtain ⟨ef, rfl, ie⟩ := p10.both
      simp (disch := first | exact dsch | kernel_rfl) only [go_sem, ↓reduceIte, Nat.reduceEqDiff, Nat.reduceLT, Nat.reduceAdd, reduceCtorEq, Int.reduceToNat, Try.ntmps5, Try.results5, ld_graph bx9]
      refine AOK_gives (specEffect_ok l8 q8 m8 o8 s8 t8 _ (SliceAt.ext is8 (by exact xt)) (by omega) (SliceAt.ext iq8 (by exact xt)) (by omega) hm8) ?_
      intro _ H11 x11 p11
      obtain ⟨wa, rfl, iwa⟩ := p11.both
      simp (disch := first | exact dsch | kernel_rfl) only [go_sem, ↓reduceIte, Nat.reduceEqDiff, Nat.reduceLT, Nat.reduceAdd, reduceCtorEq, Int.reduceToNat, Try.ntmps5, Try.results5, ld_graph bx9]
      refine AOK_is (implIsColours_ok l8 q8 m8 o8 s8 t8 _ (SliceAt.ext is8 (by exact xt)) (by omega) (SliceAt.ext iq8 (by exact xt)) (by omega) (by omega) (by omega)) ?_
      intro H12 x12
      simp (disch := first | exact dsch | kernel_rfl) only [go_sem, ↓reduceIte, Nat.reduceEqDiff, Nat.reduceLT, Nat.reduceAdd, reduceCtorEq, Int.reduceToNat, Try.ntmps5, Try.results5, ld_graph bx9]
      refine AOK_is (specIsColours_ok l8 q8 m8 o8 s8 t8 _ (SliceAt.ext is8 (by exact xt)) (by omega) (SliceAt.ext iq8 (by exact xt)) (by omega) (by omega) (by omega)) ?_
      intro H13 x13
      rw [colL_and]
      have hel : (zs (efL (nn l8) o8 m8 (nn q8))).length < 1000000 := by simp [efL]; omega
      have lp8 := fun b => ifL_len (b := b) hel
      generalize colL l8 m8 q8 = b1 at *
      generalize colB l8 m8 = b2 at *
      have db1 : decide (b1 = b1) = true := decide_eq_true rfl
      have db2 : decide (b2 = b2) = true := decide_eq_true rfl
      simp (disch := first | exact dsch | kernel_rfl) only [go_sem, ↓reduceIte, Nat.reduceEqDiff, Nat.reduceLT, Nat.reduceAdd, reduceCtorEq, Int.reduceToNat, Try.ntmps5, Try.results5, db1, db2, Bool.not_true]
      refine AOK_is (hSame_ok _ _ ef wa _ (SliceAt.ext ie (by exact xt)) (SliceAt.ext iwa (by exact xt)) (by have := lp8 b1; omega) (by have := lp8 b1; omega)) ?_
      intro H14 x14
      rw [decide_eq_true rfl]
      simp (disch := first | exact dsch | kernel_rfl) only [go_sem, ↓reduceIte, Nat.reduceEqDiff, Nat.reduceLT, Nat.reduceAdd, reduceCtorEq, Int.reduceToNat, Try.ntmps5, Try.results5, fr, db1, db2, Bool.not_true]
      have x14' : Ext H H14 := by exact xt
      clear ie iwa p10 p11 lp8 hel db1 db2 iq8 is8 bx9
      clear x8 x9 x10 x11 x12 x13 x14
      refine AOK_gives (drawPeriodOf_ok v1 l1 H14 (c1.ext x14')) ?_
      rintro _ H15 x15 ⟨g9, m9, t9, rfl, hm9, ⟨s9, o9, l9, rfl, is9, hl9, _⟩, ⟨q9, iq9, hq9, _⟩⟩
      have hso9 := SliceAt.isOne is9
      simp (disch := first | exact dsch | kernel_rfl) only [go_sem, ↓reduceIte, Nat.reduceEqDiff, Nat.reduceLT, Nat.reduceAdd, reduceCtorEq, Int.reduceToNat, Try.ntmps5, Try.results5, fr]
      generalize hH16 : H15.push (.cells 2 false [s9, .bool o9]) = H16
      have x16 : Ext H15 H16 := by rw [← hH16]; exact Ext.push _ _
      have bx16 : H16.blk H15.size = .cells 2 false [s9, .bool o9] := by rw [← hH16]; exact AH.push_same _ _
      refine AOK_is (implPeriod_ok l9 q9 m9 o9 s9 t9 _ (SliceAt.ext is9 (by exact xt)) (by omega) (SliceAt.ext iq9 (by exact xt)) (by omega) hm9) ?_
      intro H17 x17
      rw [perV_eq]
      simp (disch := first | exact dsch | kernel_rfl) only [go_sem, ↓reduceIte, Nat.reduceEqDiff, Nat.reduceLT, Nat.reduceAdd, reduceCtorEq, Int.reduceToNat, Try.ntmps5, Try.results5, fr, ld_graph bx16]
      refine AOK_is (specPeriod_ok l9 q9 m9 o9 s9 t9 _ (SliceAt.ext is9 (by exact xt)) (by omega) (SliceAt.ext iq9 (by exact xt)) (by omega) hm9) ?_
      intro H18 x18
      rw [perV_eq]
      generalize wordB l9 m9 q9 = b3 at *
      generalize perX l9 o9 m9 q9 b3 = px at *
      simp (disch := first | exact dsch | kernel_rfl) only [go_sem, ↓reduceIte, Nat.reduceEqDiff, Nat.reduceLT, Nat.reduceAdd, reduceCtorEq, Int.reduceToNat, Try.ntmps5, Try.results5, fr]
      have x18' : Ext H H18 := by exact xt
      clear is9 iq9 bx16 x15 x16 x17 x18
      refine AOK_gives (drawColoursText_ok v1 l1 H18 (c1.ext x18')) ?_
      rintro td H19 x19 ⟨q10, iq10, hq10, _⟩
      simp (disch := first | exact dsch | kernel_rfl) only [go_sem, ↓reduceIte, Nat.reduceEqDiff, Nat.reduceLT, Nat.reduceAdd, reduceCtorEq, Int.reduceToNat, Try.ntmps5, Try.results5, fr]
      refine AOK_is (implColoursText_ok q10 td H19 iq10 (by omega)) ?_
      intro H20 x20
      simp (disch := first | exact dsch | kernel_rfl) only [go_sem, ↓reduceIte, Nat.reduceEqDiff, Nat.reduceLT, Nat.reduceAdd, reduceCtorEq, Int.reduceToNat, Try.ntmps5, Try.results5, fr]
      refine AOK_is (specColoursText_ok q10 td H20 (SliceAt.ext iq10 (by exact xt)) (by omega)) ?_
      intro H21 x21
      generalize digB q10 = b4 at *
      generalize digT q10 = dt at *
      simp (disch := first | exact dsch | kernel_rfl) only [go_sem, ↓reduceIte, Nat.reduceEqDiff, Nat.reduceLT, Nat.reduceAdd, reduceCtorEq, Int.reduceToNat, Try.ntmps5, Try.results5, fr]
      have x21' : Ext H H21 := by exact xt
      clear iq10 x19 x20 x21
      refine AOK_gives (drawParseColours_ok v1 l1 H21 (c1.ext x21')) ?_
      rintro _ H22 x22 ⟨cs, rfl, hcs, hcl⟩
      simp (disch := first | exact dsch | kernel_rfl) only [go_sem, ↓reduceIte, Nat.reduceEqDiff, Nat.reduceLT, Nat.reduceAdd, reduceCtorEq, Int.reduceToNat, Try.ntmps5, Try.results5, fr]
      refine AOK_gives (implParseColours_ok cs H22 hcs (by omega)) ?_
      intro _ H23 x23 p23
      obtain ⟨rd, rfl, ird⟩ := p23.both
      simp (disch := first | exact dsch | kernel_rfl) only [go_sem, ↓reduceIte, Nat.reduceEqDiff, Nat.reduceLT, Nat.reduceAdd, reduceCtorEq, Int.reduceToNat, Try.ntmps5, Try.results5, fr]
      refine AOK_gives (specParseColours_ok cs H23 hcs (by omega)) ?_
      intro _ H24 x24 p24
      obtain ⟨pd, rfl, ipd⟩ := p24.both
      have lpp : (if parB cs = true then parL cs else []).length < 1000000 := ifL_len (by simp [parL]; omega)
      have dcs : parB cs = true → digT (parL cs) = cs := parL_digT
      have dgb : digB (parL cs) = parB cs := parB_dig cs
      generalize hb5 : parB cs = b5 at *
      have db3 : decide (b3 = b3) = true := decide_eq_true rfl
      have db4 : decide (b4 = b4) = true := decide_eq_true rfl
      have db5 : decide (b5 = b5) = true := decide_eq_true rfl
      have dpx : decide (px = px) = true := decide_eq_true rfl
      simp (disch := first | exact dsch | kernel_rfl) only [go_sem, ↓reduceIte, Nat.reduceEqDiff, Nat.reduceLT, Nat.reduceAdd, reduceCtorEq, Int.reduceToNat, Try.ntmps5, Try.results5, fr, db3, db4, db5, dpx, tx_ne, Bool.not_true]
      refine AOK_is (hSame_ok _ _ rd pd _ (SliceAt.ext ird (by exact xt)) ipd (by omega) (by omega)) ?_
      intro H25 x25
      rw [decide_eq_true rfl]
      cases b5
      · simp (disch := first | exact dsch | kernel_rfl) only [go_sem, ↓reduceIte, Nat.reduceEqDiff, Nat.reduceLT, Nat.reduceAdd, reduceCtorEq, Int.reduceToNat, Try.ntmps5, Try.results5, fr, Bool.not_true]
      · rw [if_pos rfl] at ird lpp
        simp (disch := first | exact dsch | kernel_rfl) only [go_sem, ↓reduceIte, Nat.reduceEqDiff, Nat.reduceLT, Nat.reduceAdd, reduceCtorEq, Int.reduceToNat, Try.ntmps5, Try.results5, fr, Bool.not_true]
        refine AOK_is (implColoursText_ok (parL cs) rd H25 (SliceAt.ext ird (by exact xt)) (by omega)) ?_
        intro H26 x26
        rw [dcs rfl, dgb]
        simp (disch := first | exact dsch | kernel_rfl) only [go_sem, ↓reduceIte, Nat.reduceEqDiff, Nat.reduceLT, Nat.reduceAdd, reduceCtorEq, Int.reduceToNat, Try.ntmps5, Try.results5, fr, tx_eq]
  · simp (disch := first | exact dsch | kernel_rfl) only [go_sem, ↓reduceIte, Nat.reduceEqDiff, Nat.reduceLT, Nat.reduceAdd, reduceCtorEq, Int.reduceToNat, Try.ntmps5, Try.results5]

end Go.Proofs.Ytopbfmhajbjepaa
