/- Exactness: copies, comparisons and marks of the laws' text. -/
import Derived.Test.YtopbfmhajbjepaaC9
namespace Go.Proofs.Ytopbfmhajbjepaa
open Go
set_option linter.unusedSimpArgs false
set_option linter.unusedVariables false

/- Fields of a thing in memory: read behind a write, and written. -/
theorem fld_put {H : AH} {b e o : Nat} {ro : Bool} {xs : List AV} {v : AV} {t : TypeId} {d : TD} (hT : TA t = some d) (ha : d.agg = false) (hb : b < H.size) (hv : xs[o]? = some v) :
    aload1 TA (H.put b (.cells e ro xs)) t (.ptr b o) = some (v, H.put b (.cells e ro xs)) := aload_cell hT ha (put_blk_same hb) hv
theorem fld_st {H : AH} {b e o : Nat} {xs : List AV} {v : AV} {t : TypeId} {d : TD} (hT : TA t = some d) (ha : d.agg = false) (hs : d.size = 1) (h : H.blk b = .cells e false xs) (ho : o < xs.length) (hv : v.one = true) :
    astore1 TA H t (.ptr b o) v = some (.undef, H.put b (.cells e false (xs.set o v))) := astore_cell hT ha hs h ho hv
@[go_sem] theorem pf_sl0 {H : AH} {b e : Nat} {ro : Bool} {x : AV} {r : List AV} (hb : b < H.size) : aload1 TA (H.put b (.cells e ro (x :: r))) 22 (.ptr b 0) = some (x, H.put b (.cells e ro (x :: r))) := fld_put (t := 22) rfl rfl hb rfl
@[go_sem low] theorem bs_sl0 {H H' : AH} {e : Nat} {x : AV} {v : AV} {r : List AV} (x' : Ext (H.push (.cells e false (x :: r))) H') (hv : v.one = true) : astore1 TA H' 22 (.ptr H.size 0) v = some (.undef, H'.put H.size (.cells e false (v :: r))) :=
  fld_st (t := 22) rfl rfl rfl (x'.cells (AH.push_same _ _)) (by simp) hv
@[go_sem] theorem ps_sl0 {H : AH} {b e : Nat} {x : AV} {v : AV} {r : List AV} (hb : b < H.size) (hv : v.one = true) : astore1 TA (H.put b (.cells e false (x :: r))) 22 (.ptr b 0) v = some (.undef, (H.put b (.cells e false (x :: r))).put b (.cells e false (v :: r))) :=
  fld_st (t := 22) rfl rfl rfl (put_blk_same hb) (by simp) hv
@[go_sem] theorem pf_sl1 {H : AH} {b e : Nat} {ro : Bool} {x y : AV} {r : List AV} (hb : b < H.size) : aload1 TA (H.put b (.cells e ro (x :: y :: r))) 22 (.ptr b 1) = some (y, H.put b (.cells e ro (x :: y :: r))) := fld_put (t := 22) rfl rfl hb rfl
@[go_sem low] theorem bs_sl1 {H H' : AH} {e : Nat} {x y : AV} {v : AV} {r : List AV} (x' : Ext (H.push (.cells e false (x :: y :: r))) H') (hv : v.one = true) : astore1 TA H' 22 (.ptr H.size 1) v = some (.undef, H'.put H.size (.cells e false (x :: v :: r))) :=
  fld_st (t := 22) rfl rfl rfl (x'.cells (AH.push_same _ _)) (by simp) hv
@[go_sem] theorem ps_sl1 {H : AH} {b e : Nat} {x y : AV} {v : AV} {r : List AV} (hb : b < H.size) (hv : v.one = true) : astore1 TA (H.put b (.cells e false (x :: y :: r))) 22 (.ptr b 1) v = some (.undef, (H.put b (.cells e false (x :: y :: r))).put b (.cells e false (x :: v :: r))) :=
  fld_st (t := 22) rfl rfl rfl (put_blk_same hb) (by simp) hv
@[go_sem] theorem pf_sl2 {H : AH} {b e : Nat} {ro : Bool} {x y z : AV} {r : List AV} (hb : b < H.size) : aload1 TA (H.put b (.cells e ro (x :: y :: z :: r))) 22 (.ptr b 2) = some (z, H.put b (.cells e ro (x :: y :: z :: r))) := fld_put (t := 22) rfl rfl hb rfl
@[go_sem low] theorem bs_sl2 {H H' : AH} {e : Nat} {x y z : AV} {v : AV} {r : List AV} (x' : Ext (H.push (.cells e false (x :: y :: z :: r))) H') (hv : v.one = true) : astore1 TA H' 22 (.ptr H.size 2) v = some (.undef, H'.put H.size (.cells e false (x :: y :: v :: r))) :=
  fld_st (t := 22) rfl rfl rfl (x'.cells (AH.push_same _ _)) (by simp) hv
@[go_sem] theorem ps_sl2 {H : AH} {b e : Nat} {x y z : AV} {v : AV} {r : List AV} (hb : b < H.size) (hv : v.one = true) : astore1 TA (H.put b (.cells e false (x :: y :: z :: r))) 22 (.ptr b 2) v = some (.undef, (H.put b (.cells e false (x :: y :: z :: r))).put b (.cells e false (x :: y :: v :: r))) :=
  fld_st (t := 22) rfl rfl rfl (put_blk_same hb) (by simp) hv
@[go_sem] theorem pf_int0 {H : AH} {b e : Nat} {ro : Bool} {x : AV} {r : List AV} (hb : b < H.size) : aload1 TA (H.put b (.cells e ro (x :: r))) 3 (.ptr b 0) = some (x, H.put b (.cells e ro (x :: r))) := fld_put (t := 3) rfl rfl hb rfl
@[go_sem low] theorem bs_int0 {H H' : AH} {e : Nat} {x : AV} {j : IntKind} {w : Int} {r : List AV} (x' : Ext (H.push (.cells e false (x :: r))) H')  : astore1 TA H' 3 (.ptr H.size 0) (.int j w) = some (.undef, H'.put H.size (.cells e false ((.int j w) :: r))) :=
  fld_st (t := 3) rfl rfl rfl (x'.cells (AH.push_same _ _)) (by simp) rfl
@[go_sem] theorem ps_int0 {H : AH} {b e : Nat} {x : AV} {j : IntKind} {w : Int} {r : List AV} (hb : b < H.size)  : astore1 TA (H.put b (.cells e false (x :: r))) 3 (.ptr b 0) (.int j w) = some (.undef, (H.put b (.cells e false (x :: r))).put b (.cells e false ((.int j w) :: r))) :=
  fld_st (t := 3) rfl rfl rfl (put_blk_same hb) (by simp) rfl
@[go_sem] theorem pf_int1 {H : AH} {b e : Nat} {ro : Bool} {x y : AV} {r : List AV} (hb : b < H.size) : aload1 TA (H.put b (.cells e ro (x :: y :: r))) 3 (.ptr b 1) = some (y, H.put b (.cells e ro (x :: y :: r))) := fld_put (t := 3) rfl rfl hb rfl
@[go_sem low] theorem bs_int1 {H H' : AH} {e : Nat} {x y : AV} {j : IntKind} {w : Int} {r : List AV} (x' : Ext (H.push (.cells e false (x :: y :: r))) H')  : astore1 TA H' 3 (.ptr H.size 1) (.int j w) = some (.undef, H'.put H.size (.cells e false (x :: (.int j w) :: r))) :=
  fld_st (t := 3) rfl rfl rfl (x'.cells (AH.push_same _ _)) (by simp) rfl
@[go_sem] theorem ps_int1 {H : AH} {b e : Nat} {x y : AV} {j : IntKind} {w : Int} {r : List AV} (hb : b < H.size)  : astore1 TA (H.put b (.cells e false (x :: y :: r))) 3 (.ptr b 1) (.int j w) = some (.undef, (H.put b (.cells e false (x :: y :: r))).put b (.cells e false (x :: (.int j w) :: r))) :=
  fld_st (t := 3) rfl rfl rfl (put_blk_same hb) (by simp) rfl
@[go_sem] theorem pf_int2 {H : AH} {b e : Nat} {ro : Bool} {x y z : AV} {r : List AV} (hb : b < H.size) : aload1 TA (H.put b (.cells e ro (x :: y :: z :: r))) 3 (.ptr b 2) = some (z, H.put b (.cells e ro (x :: y :: z :: r))) := fld_put (t := 3) rfl rfl hb rfl
@[go_sem low] theorem bs_int2 {H H' : AH} {e : Nat} {x y z : AV} {j : IntKind} {w : Int} {r : List AV} (x' : Ext (H.push (.cells e false (x :: y :: z :: r))) H')  : astore1 TA H' 3 (.ptr H.size 2) (.int j w) = some (.undef, H'.put H.size (.cells e false (x :: y :: (.int j w) :: r))) :=
  fld_st (t := 3) rfl rfl rfl (x'.cells (AH.push_same _ _)) (by simp) rfl
@[go_sem] theorem ps_int2 {H : AH} {b e : Nat} {x y z : AV} {j : IntKind} {w : Int} {r : List AV} (hb : b < H.size)  : astore1 TA (H.put b (.cells e false (x :: y :: z :: r))) 3 (.ptr b 2) (.int j w) = some (.undef, (H.put b (.cells e false (x :: y :: z :: r))).put b (.cells e false (x :: y :: (.int j w) :: r))) :=
  fld_st (t := 3) rfl rfl rfl (put_blk_same hb) (by simp) rfl
@[go_sem] theorem pf_bool0 {H : AH} {b e : Nat} {ro : Bool} {x : AV} {r : List AV} (hb : b < H.size) : aload1 TA (H.put b (.cells e ro (x :: r))) 4 (.ptr b 0) = some (x, H.put b (.cells e ro (x :: r))) := fld_put (t := 4) rfl rfl hb rfl
@[go_sem low] theorem bs_bool0 {H H' : AH} {e : Nat} {x : AV} {w : Bool} {r : List AV} (x' : Ext (H.push (.cells e false (x :: r))) H')  : astore1 TA H' 4 (.ptr H.size 0) (.bool w) = some (.undef, H'.put H.size (.cells e false ((.bool w) :: r))) :=
  fld_st (t := 4) rfl rfl rfl (x'.cells (AH.push_same _ _)) (by simp) rfl
@[go_sem] theorem ps_bool0 {H : AH} {b e : Nat} {x : AV} {w : Bool} {r : List AV} (hb : b < H.size)  : astore1 TA (H.put b (.cells e false (x :: r))) 4 (.ptr b 0) (.bool w) = some (.undef, (H.put b (.cells e false (x :: r))).put b (.cells e false ((.bool w) :: r))) :=
  fld_st (t := 4) rfl rfl rfl (put_blk_same hb) (by simp) rfl
@[go_sem] theorem pf_bool1 {H : AH} {b e : Nat} {ro : Bool} {x y : AV} {r : List AV} (hb : b < H.size) : aload1 TA (H.put b (.cells e ro (x :: y :: r))) 4 (.ptr b 1) = some (y, H.put b (.cells e ro (x :: y :: r))) := fld_put (t := 4) rfl rfl hb rfl
@[go_sem low] theorem bs_bool1 {H H' : AH} {e : Nat} {x y : AV} {w : Bool} {r : List AV} (x' : Ext (H.push (.cells e false (x :: y :: r))) H')  : astore1 TA H' 4 (.ptr H.size 1) (.bool w) = some (.undef, H'.put H.size (.cells e false (x :: (.bool w) :: r))) :=
  fld_st (t := 4) rfl rfl rfl (x'.cells (AH.push_same _ _)) (by simp) rfl
@[go_sem] theorem ps_bool1 {H : AH} {b e : Nat} {x y : AV} {w : Bool} {r : List AV} (hb : b < H.size)  : astore1 TA (H.put b (.cells e false (x :: y :: r))) 4 (.ptr b 1) (.bool w) = some (.undef, (H.put b (.cells e false (x :: y :: r))).put b (.cells e false (x :: (.bool w) :: r))) :=
  fld_st (t := 4) rfl rfl rfl (put_blk_same hb) (by simp) rfl
@[go_sem] theorem pf_bool2 {H : AH} {b e : Nat} {ro : Bool} {x y z : AV} {r : List AV} (hb : b < H.size) : aload1 TA (H.put b (.cells e ro (x :: y :: z :: r))) 4 (.ptr b 2) = some (z, H.put b (.cells e ro (x :: y :: z :: r))) := fld_put (t := 4) rfl rfl hb rfl
@[go_sem low] theorem bs_bool2 {H H' : AH} {e : Nat} {x y z : AV} {w : Bool} {r : List AV} (x' : Ext (H.push (.cells e false (x :: y :: z :: r))) H')  : astore1 TA H' 4 (.ptr H.size 2) (.bool w) = some (.undef, H'.put H.size (.cells e false (x :: y :: (.bool w) :: r))) :=
  fld_st (t := 4) rfl rfl rfl (x'.cells (AH.push_same _ _)) (by simp) rfl
@[go_sem] theorem ps_bool2 {H : AH} {b e : Nat} {x y z : AV} {w : Bool} {r : List AV} (hb : b < H.size)  : astore1 TA (H.put b (.cells e false (x :: y :: z :: r))) 4 (.ptr b 2) (.bool w) = some (.undef, (H.put b (.cells e false (x :: y :: z :: r))).put b (.cells e false (x :: y :: (.bool w) :: r))) :=
  fld_st (t := 4) rfl rfl rfl (put_blk_same hb) (by simp) rfl
@[go_sem] theorem put_put {H : AH} {b : Nat} {x y : ABlk} : (H.put b x).put b y = H.put b y :=
  AH.ext' rfl fun c => by
    show (if c = b ∧ c < H.size then y else (if c = b ∧ c < H.size then x else H.blk c)) = (if c = b ∧ c < H.size then y else H.blk c)
    split <;> simp_all
@[go_sem] theorem st_graph_newv {H : AH} {x y s : AV} {o : Bool} (hs : s.one = true) : astore1 TA (H.push (.cells 2 false [x, y])) 26 (.ptr H.size 0) (.agg [s, .bool o]) = some (.undef, H.push (.cells 2 false [s, .bool o])) := by
  rw [st_graph (AH.push_same _ _) hs, push_put]
@[go_sem low] theorem st_graph_oldv {H H' : AH} {x y s : AV} {o : Bool} (e : Ext (H.push (.cells 2 false [x, y])) H') (hs : s.one = true) :
    astore1 TA H' 26 (.ptr H.size 0) (.agg [s, .bool o]) = some (.undef, H'.put H.size (.cells 2 false [s, .bool o])) := st_graph (e.cells (AH.push_same _ _)) hs
@[go_sem] theorem lgraph_f0 {b o : Nat} : afieldAddr TA 24 (.ptr b o) 0 = some (.ptr b o) := rfl
@[go_sem] theorem lgraph_f1 {b o : Nat} : afieldAddr TA 24 (.ptr b o) 1 = some (.ptr b (o + 1)) := rfl
@[go_sem] theorem box_lgraph {H0 H' : AH} {ro : Bool} {x y : AV} (e : Ext (H0.push (.cells 2 ro [x, y])) H') : aload1 TA H' 24 (.ptr H0.size 0) = some (.agg [x, y], H') :=
  aload_agg (t := 24) (d := td24) (o := 0) rfl rfl (e.cells (AH.push_same _ _)) (Nat.le_refl 2)

/-- A row of whole numbers as a block. -/
def rowZ (l : List Int) : ABlk := .cells 1 false (ints l)
theorem ints_set (l : List Int) (i : Nat) (x : Int) : ints (l.set i x) = (ints l).set i (.int .i64 x) := by simp [ints, List.map_set]
theorem rowBlk_zs (l : List Nat) : rowBlk l = rowZ (zs l) := rfl

theorem szIntS_ok (l : List Int) (left : Int) (s : AV) (H : AH) (hs : IntsAt H s l) (hl : l.length < 4611686018427387904) (h0 : 0 ≤ left) (h1 : left < 2147483648) :
    E 116 [s, .int .i64 left] H (Is (.int .i64 (if left < l.length then -1 else left - l.length)) H) := by
  refine Ev.enterK (fn := Try.f116) rfl Try.func116 rfl (by kernel_rfl) (by simp [Try.ntmps116]) ?_
  (simp (disch := first | exact dsch | kernel_rfl) only [go_sem, ↓reduceIte, Nat.reduceEqDiff, Nat.reduceLT, Nat.reduceAdd, reduceCtorEq, Int.reduceToNat, Try.ntmps116, Try.results116, hs.len] <;> repeat' ((first | refine AK.drawT (by kernel_rfl) ?_ | ((first | refine ABK_mk ?_ ?_ | refine AGK_mk ?_ ?_) <;> intro hb <;> (try simp only [decide_eq_true_eq, decide_eq_false_iff_not, Bool.not_eq_true', Bool.not_eq_false', Bool.not_not] at hb) <;> (try (exfalso; omega)) <;> (try subst hb) <;> try simp only [hb, decide_true, decide_false])) <;> try simp (disch := first | exact dsch | kernel_rfl) only [go_sem, ↓reduceIte, Nat.reduceEqDiff, Nat.reduceLT, Nat.reduceAdd, reduceCtorEq, Int.reduceToNat, Try.ntmps116, Try.results116, hs.len]))
  · exact Is.mk (by rw [if_pos (by omega)]) (by exact xt)
  · exact Is.mk (by rw [if_neg (by omega)]) (by exact xt)
--@CON laws.szIntS: exact szIntS_ok _ _ _ _ (by first | assumption | (refine SliceAt.ext (by assumption) ?_; exact xt)) (by omega) (by omega) (by omega)

theorem szGraph_ok (l : List Int) (o : Bool) (left : Int) (s : AV) (H : AH) (hs : IntsAt H s l) (hl : l.length < 4611686018427387904) (h0 : 0 ≤ left) (h1 : left < 2147483648) :
    E 12 [.agg [s, .bool o], .int .i64 left] H (Is (.int .i64 (if left < l.length then -1 else left - l.length)) H) := by
  refine Ev.enterK (fn := Try.f12) rfl Try.func12 rfl (by kernel_rfl) (by simp [Try.ntmps12]) ?_
  by_cases hc : left < l.length
  · (simp (disch := first | exact dsch | kernel_rfl) only [go_sem, ↓reduceIte, Nat.reduceEqDiff, Nat.reduceLT, Nat.reduceAdd, reduceCtorEq, Int.reduceToNat, Try.ntmps12, Try.results12, hs.len, hc, if_true] <;> repeat' ((first | (refine AOK_is (by exact szIntS_ok _ _ _ _ (by first | assumption | (refine SliceAt.ext (by assumption) ?_; exact xt)) (by omega) (by omega) (by omega)) ?_; intro Hc hxc) | refine AK.drawT (by kernel_rfl) ?_ | ((first | refine ABK_mk ?_ ?_ | refine AGK_mk ?_ ?_) <;> intro hb <;> (try simp only [decide_eq_true_eq, decide_eq_false_iff_not, Bool.not_eq_true', Bool.not_eq_false', Bool.not_not] at hb) <;> (try (exfalso; omega)) <;> (try subst hb) <;> try simp only [hb, decide_true, decide_false])) <;> try simp (disch := first | exact dsch | kernel_rfl) only [go_sem, ↓reduceIte, Nat.reduceEqDiff, Nat.reduceLT, Nat.reduceAdd, reduceCtorEq, Int.reduceToNat, Try.ntmps12, Try.results12, hs.len, hc, if_true]))
    exact Is.mk rfl (by exact xt)
  · (simp (disch := first | exact dsch | kernel_rfl) only [go_sem, ↓reduceIte, Nat.reduceEqDiff, Nat.reduceLT, Nat.reduceAdd, reduceCtorEq, Int.reduceToNat, Try.ntmps12, Try.results12, hs.len, hc, if_false] <;> repeat' ((first | (refine AOK_is (by exact szIntS_ok _ _ _ _ (by first | assumption | (refine SliceAt.ext (by assumption) ?_; exact xt)) (by omega) (by omega) (by omega)) ?_; intro Hc hxc) | refine AK.drawT (by kernel_rfl) ?_ | ((first | refine ABK_mk ?_ ?_ | refine AGK_mk ?_ ?_) <;> intro hb <;> (try simp only [decide_eq_true_eq, decide_eq_false_iff_not, Bool.not_eq_true', Bool.not_eq_false', Bool.not_not] at hb) <;> (try (exfalso; omega)) <;> (try subst hb) <;> try simp only [hb, decide_true, decide_false])) <;> try simp (disch := first | exact dsch | kernel_rfl) only [go_sem, ↓reduceIte, Nat.reduceEqDiff, Nat.reduceLT, Nat.reduceAdd, reduceCtorEq, Int.reduceToNat, Try.ntmps12, Try.results12, hs.len, hc, if_false]))
    exact Is.mk rfl (by exact xt)
--@CON laws.szGraph: exact szGraph_ok _ _ _ _ _ (by first | assumption | (refine SliceAt.ext (by assumption) ?_; exact xt)) (by omega) (by omega) (by omega)

theorem getD_ext {la lb : List Int} (h : la.length = lb.length) (k : ∀ j < la.length, la.getD j 0 = lb.getD j 0) : la = lb := by
  apply List.ext_getElem h
  intro j h1 h2
  have := k j h1
  simpa [List.getD, h1, h2] using this
theorem eqIntS_ok (la lb : List Int) (a b : AV) (H : AH) (ha : IntsAt H a la) (hsb : IntsAt H b lb) (hla : la.length < 2147483648) (hlb : lb.length < 2147483648) :
    E 22 [a, b] H (Is (.bool (decide (la = lb))) H) := by
  refine Ev.enterK (fn := Try.f22) rfl Try.func22 rfl (by kernel_rfl) (by simp [Try.ntmps22]) ?_
  (simp (disch := first | exact dsch | kernel_rfl) only [go_sem, ↓reduceIte, Nat.reduceEqDiff, Nat.reduceLT, Nat.reduceAdd, reduceCtorEq, Int.reduceToNat, Try.ntmps22, Try.results22, ha.len, hsb.len] <;> repeat' ((first | refine AK.drawT (by kernel_rfl) ?_ | ((first | refine ABK_mk ?_ ?_ | refine AGK_mk ?_ ?_) <;> intro hb <;> (try simp only [decide_eq_true_eq, decide_eq_false_iff_not, Bool.not_eq_true', Bool.not_eq_false', Bool.not_not] at hb) <;> (try (exfalso; omega)) <;> (try subst hb) <;> try simp only [hb, decide_true, decide_false])) <;> try simp (disch := first | exact dsch | kernel_rfl) only [go_sem, ↓reduceIte, Nat.reduceEqDiff, Nat.reduceLT, Nat.reduceAdd, reduceCtorEq, Int.reduceToNat, Try.ntmps22, Try.results22, ha.len, hsb.len]))
  · refine (AK.countx 5 [4, 5, 11, 12, 13, 14, 15, 16, 17, 18, 19, 20, 21, 22, 23, 24, 25] (by kernel_rfl) 0 la.length (fun i tm H' => ∀ j < i, la.getD j 0 = lb.getD j 0) (by rfl) (by omega) (fun j h => by omega) ?_)
    rintro i tm H' K h1 h2 fr hq hx hI hK
    (simp (disch := first | exact dsch | kernel_rfl) only [go_sem, ↓reduceIte, Nat.reduceEqDiff, Nat.reduceLT, Nat.reduceAdd, reduceCtorEq, Int.reduceToNat, Try.ntmps22, Try.results22, fr, hq, ha.len, hsb.len, ha.ix, ha.ld, hsb.ix, hsb.ld] <;> repeat' ((first | refine AK.drawT (by kernel_rfl) ?_ | ((first | refine ABK_mk ?_ ?_ | refine AGK_mk ?_ ?_) <;> intro hb <;> (try simp only [decide_eq_true_eq, decide_eq_false_iff_not, Bool.not_eq_true', Bool.not_eq_false', Bool.not_not] at hb) <;> (try (exfalso; omega)) <;> (try subst hb) <;> try simp only [hb, decide_true, decide_false])) <;> try simp (disch := first | exact dsch | kernel_rfl) only [go_sem, ↓reduceIte, Nat.reduceEqDiff, Nat.reduceLT, Nat.reduceAdd, reduceCtorEq, Int.reduceToNat, Try.ntmps22, Try.results22, fr, hq, ha.len, hsb.len, ha.ix, ha.ld, hsb.ix, hsb.ld]))
    · refine hK _ _ (by omega) (by rfl) (by exact xt) fun j hj => ?_
      by_cases e : j = i
      · subst e; assumption
      · exact hI j (by omega)
    · refine Is.mk ?_ (by exact xt)
      rw [decide_eq_false]
      rintro rfl
      exact hb rfl
    · refine Is.mk ?_ (by exact xt)
      rw [decide_eq_true]
      exact getD_ext (by omega) fun j hj => hI j (by omega)
  · refine Is.mk ?_ (by exact xt)
    rw [decide_eq_false]
    rintro rfl
    exact hb rfl

--@CON laws.eqIntS: exact eqIntS_ok _ _ _ _ _ (by first | assumption | (refine SliceAt.ext (by assumption) ?_; exact xt)) (by first | assumption | (refine SliceAt.ext (by assumption) ?_; exact xt)) (by omega) (by omega)

theorem eqGraph_ok (la lb : List Int) (oa ob : Bool) (a b : AV) (H : AH) (ha : IntsAt H a la) (hsb : IntsAt H b lb) (hla : la.length < 2147483648) (hlb : lb.length < 2147483648) :
    E 16 [.agg [a, .bool oa], .agg [b, .bool ob]] H (Is (.bool (decide (la = lb ∧ oa = ob))) H) := by
  refine Ev.enterK (fn := Try.f16) rfl Try.func16 rfl (by kernel_rfl) (by simp [Try.ntmps16]) ?_
  simp (disch := first | exact dsch | kernel_rfl) only [go_sem, ↓reduceIte, Nat.reduceEqDiff, Nat.reduceLT, Nat.reduceAdd, reduceCtorEq, Int.reduceToNat, Try.ntmps16, Try.results16]
  refine AOK_is (eqIntS_ok la lb a b _ (ha.ext (by exact xt)) (hsb.ext (by exact xt)) hla hlb) ?_
  intro Hc hxc
  (simp (disch := first | exact dsch | kernel_rfl) only [go_sem, ↓reduceIte, Nat.reduceEqDiff, Nat.reduceLT, Nat.reduceAdd, reduceCtorEq, Int.reduceToNat, Try.ntmps16, Try.results16] <;> repeat' ((first | (refine AOK_is (by exact eqIntS_ok _ _ _ _ _ (by first | assumption | (refine SliceAt.ext (by assumption) ?_; exact xt)) (by first | assumption | (refine SliceAt.ext (by assumption) ?_; exact xt)) (by omega) (by omega)) ?_; intro Hc hxc) | refine AK.drawT (by kernel_rfl) ?_ | ((first | refine ABK_mk ?_ ?_ | refine AGK_mk ?_ ?_) <;> intro hb <;> (try simp only [decide_eq_true_eq, decide_eq_false_iff_not, Bool.not_eq_true', Bool.not_eq_false', Bool.not_not] at hb) <;> (try (exfalso; omega)) <;> (try subst hb) <;> try simp only [hb, decide_true, decide_false])) <;> try simp (disch := first | exact dsch | kernel_rfl) only [go_sem, ↓reduceIte, Nat.reduceEqDiff, Nat.reduceLT, Nat.reduceAdd, reduceCtorEq, Int.reduceToNat, Try.ntmps16, Try.results16]))
  all_goals exact Is.mk rfl (by exact xt)

--@CON laws.eqGraph: exact eqGraph_ok _ _ _ _ _ _ _ (by first | assumption | (refine SliceAt.ext (by assumption) ?_; exact xt)) (by first | assumption | (refine SliceAt.ext (by assumption) ?_; exact xt)) (by omega) (by omega)

theorem rowZ_st {H H' : AH} {b : Nat} {l : List Int} (h : H.blk b = rowZ l) (x : Ext H H') {i : Nat} (hi : i < l.length) {y : Int} :
    astore1 TA H' 3 (.ptr b i) (.int .i64 y) = some (.undef, H'.put b (rowZ (l.set i y))) := by
  rw [rowZ, ints_set]
  exact astore_cell (t := 3) rfl rfl rfl (x.cells h) (by simpa using hi) rfl
theorem zgetD_set (l : List Int) (i k : Nat) (x : Int) : (l.set i x).getD k 0 = if i = k ∧ k < l.length then x else l.getD k 0 := by
  simp only [List.getD, List.getElem?_set]
  by_cases h : i = k
  · subst h
    by_cases h2 : i < l.length <;> simp [h2]
  · simp [h]

theorem toIntS_ok (l : List Int) (s : AV) (H : AH) (hs : IntsAt H s l) (hl : l.length < 2147483648) :
    E 20 [s] H (Gives H fun v H' => OwnAt H.size H' v (ints l)) := by
  refine Ev.enterK (fn := Try.f20) rfl Try.func20 rfl (by kernel_rfl) (by simp [Try.ntmps20]) ?_
  (simp (disch := first | exact dsch | kernel_rfl) only [go_sem, ↓reduceIte, Nat.reduceEqDiff, Nat.reduceLT, Nat.reduceAdd, reduceCtorEq, Int.reduceToNat, Try.ntmps20, Try.results20, hs.len] <;> repeat' ((first | refine AK.drawT (by kernel_rfl) ?_ | ((first | refine ABK_mk ?_ ?_ | refine AGK_mk ?_ ?_) <;> intro hb <;> (try simp only [decide_eq_true_eq, decide_eq_false_iff_not, Bool.not_eq_true', Bool.not_eq_false', Bool.not_not] at hb) <;> (try (exfalso; omega)) <;> (try subst hb) <;> try simp only [hb, decide_true, decide_false])) <;> try simp (disch := first | exact dsch | kernel_rfl) only [go_sem, ↓reduceIte, Nat.reduceEqDiff, Nat.reduceLT, Nat.reduceAdd, reduceCtorEq, Int.reduceToNat, Try.ntmps20, Try.results20, hs.len]))
  refine (AK.count 4 [4, 8, 9, 10, 11, 12, 13, 14, 15, 16, 17, 18, 19, 20] (by kernel_rfl) 0 l.length (fun i tm H' => Ext H H' ∧ ∃ r, H'.blk H.size = rowZ r ∧ r.length = l.length ∧ ∀ j < i, r.getD j 0 = l.getD j 0) (by rfl) (by omega)
    ⟨by exact xt, zs (List.replicate l.length 0), by rw [push_blk_same, rowBlk_zs], by simp, fun j h => by omega⟩ ?_)
  rintro i tm H' K h1 h2 fr hq ⟨hx, r, hr, hrl, hI⟩ hK
  have hbs := AH.cells_lt hr
  (simp (disch := first | exact dsch | kernel_rfl) only [go_sem, ↓reduceIte, Nat.reduceEqDiff, Nat.reduceLT, Nat.reduceAdd, reduceCtorEq, Int.reduceToNat, Try.ntmps20, Try.results20, fr, hq, hs.len, hs.ix, hs.ld, rowZ_st hr] <;> repeat' ((first | refine AK.drawT (by kernel_rfl) ?_ | ((first | refine ABK_mk ?_ ?_ | refine AGK_mk ?_ ?_) <;> intro hb <;> (try simp only [decide_eq_true_eq, decide_eq_false_iff_not, Bool.not_eq_true', Bool.not_eq_false', Bool.not_not] at hb) <;> (try (exfalso; omega)) <;> (try subst hb) <;> try simp only [hb, decide_true, decide_false])) <;> try simp (disch := first | exact dsch | kernel_rfl) only [go_sem, ↓reduceIte, Nat.reduceEqDiff, Nat.reduceLT, Nat.reduceAdd, reduceCtorEq, Int.reduceToNat, Try.ntmps20, Try.results20, fr, hq, hs.len, hs.ix, hs.ld, rowZ_st hr]))
  · refine hK _ _ (by omega) (by rfl) ⟨by exact xt, _, put_blk_same hbs, by rw [List.length_set, hrl], fun j hj => ?_⟩
    rw [zgetD_set]
    by_cases e : i = j
    · subst e; rw [if_pos ⟨rfl, by omega⟩]
    · rw [if_neg (fun k => e k.1)]; exact hI j (by omega)
  · refine ⟨by exact xt, .inr ⟨_, 0, _, _, rfl, Nat.le_refl _, hr, by simp; omega, ?_⟩⟩
    rw [getD_ext hrl fun j hj => hI j (by omega)]
    rw [List.drop_zero, List.take_of_length_le (by simp)]

/-- A number, written into a slice. -/
def AH.wset (H : AH) (s : AV) (i : Nat) (x : AV) : AH := match H.blk s.sb with | .cells e ro xs => H.put s.sb (.cells e ro (xs.set (s.so + i) x)) | _ => H
theorem OwnAt.st {n : Nat} {H : AH} {s : AV} {l : List Int} (h : OwnAt n H s (ints l)) {i : Nat} (hi : i < l.length) {y : Int} :
    astore1 TA H 3 (.ptr s.sb (s.so + i)) (.int .i64 y) = some (.undef, H.wset s i (.int .i64 y)) := by
  rcases h with ⟨_, h⟩ | ⟨b, o, k, xs, rfl, h2, h3, h4, h5⟩
  · have : l.length = 0 := by rw [← ints_length l, h]; rfl
    omega
  · have hk : l.length = k := by have := congrArg List.length h5; rw [List.length_take, List.length_drop, ints_length] at this; omega
    simp only [AV.sb, AV.so, AH.wset, h3]
    exact astore_cell (t := 3) rfl rfl rfl h3 (by omega) rfl
theorem OwnAt.set {n : Nat} {H : AH} {s : AV} {l : List Int} (h : OwnAt n H s (ints l)) {i : Nat} (hi : i < l.length) {y : Int} : OwnAt n (H.wset s i (.int .i64 y)) s (ints (l.set i y)) := by
  rcases h with ⟨_, h⟩ | ⟨b, o, k, xs, rfl, h2, h3, h4, h5⟩
  · have : l.length = 0 := by rw [← ints_length l, h]; rfl
    omega
  · refine .inr ⟨b, o, k, xs.set (o + i) (.int .i64 y), rfl, h2, ?_, by simpa using h4, ?_⟩
    · simp only [AV.sb, AV.so, AH.wset, h3]; exact put_blk_same (AH.cells_lt h3)
    · have hk : l.length = k := by have := congrArg List.length h5; rw [List.length_take, List.length_drop, ints_length] at this; omega
      rw [ints_set, ← h5]
      apply List.ext_getElem?
      intro j
      simp only [List.getElem?_take, List.getElem?_drop, List.getElem?_set, List.length_take, List.length_drop]
      by_cases hj : j < k
      · rw [if_pos hj]
        by_cases e : i = j
        · subst e; rw [if_pos rfl, if_pos rfl, if_pos (by omega), if_pos (by omega)]
        · rw [if_neg (by omega), if_neg e, if_pos hj]
      · rw [if_neg hj, if_neg (by omega), if_neg hj]
theorem wset_wrote {n : Nat} {H : AH} {s : AV} {l : List Int} (h : OwnAt n H s (ints l)) {i : Nat} (hi : i < l.length) {x : AV} : Wrote s H (H.wset s i x) := by
  rcases h with ⟨_, h⟩ | ⟨b, o, k, xs, rfl, h2, h3, h4, h5⟩
  · have : l.length = 0 := by rw [← ints_length l, h]; rfl
    omega
  · unfold Wrote
    have e : (H.wset (.sl b o k) i x).sans (.sl b o k) = H.sans (.sl b o k) := by
      refine AH.ext' ?_ fun c => ?_
      · simp only [AH.sans, AH.wset, AV.sb, AV.so, h3, put_size]
      · simp only [AH.sans, AH.wset, AV.sb, AV.so, h3, put_blk, put_size]
        split
        · rfl
        · rfl
    rw [e]; exact Ext.refl _

theorem markIntS_ok (l : List Int) (k : Int) (s : AV) (n : Nat) (H : AH) (hs : OwnAt n H s (ints l)) (hl : l.length < 2147483648) (h0 : 0 ≤ k) (h1 : k < 2147483648) :
    E 124 [s, .int .i64 k] H fun v H' => v = .int .i64 (k + l.length) ∧ Wrote s H H' ∧ OwnAt n H' s (ints ((List.range l.length).map fun i => k + (i : Nat))) := by
  refine Ev.enterK (fn := Try.f124) rfl Try.func124 rfl (by kernel_rfl) (by simp [Try.ntmps124]) ?_
  (simp (disch := first | exact dsch | kernel_rfl) only [go_sem, ↓reduceIte, Nat.reduceEqDiff, Nat.reduceLT, Nat.reduceAdd, reduceCtorEq, Int.reduceToNat, Try.ntmps124, Try.results124] <;> repeat' ((first | refine AK.drawT (by kernel_rfl) ?_ | ((first | refine ABK_mk ?_ ?_ | refine AGK_mk ?_ ?_) <;> intro hb <;> (try simp only [decide_eq_true_eq, decide_eq_false_iff_not, Bool.not_eq_true', Bool.not_eq_false', Bool.not_not] at hb) <;> (try (exfalso; omega)) <;> (try subst hb) <;> try simp only [hb, decide_true, decide_false])) <;> try simp (disch := first | exact dsch | kernel_rfl) only [go_sem, ↓reduceIte, Nat.reduceEqDiff, Nat.reduceLT, Nat.reduceAdd, reduceCtorEq, Int.reduceToNat, Try.ntmps124, Try.results124]))
  refine (AK.count 5 [1, 5, 6, 7, 8, 9, 10, 11, 12, 13, 14, 15, 16, 17] (by kernel_rfl) 0 l.length (fun i tm H' => Wrote s H H' ∧ tm 1 = .int .i64 (k + (i : Nat)) ∧ ∃ r, OwnAt n H' s (ints r) ∧ r.length = l.length ∧ ∀ j < i, r.getD j 0 = k + (j : Nat)) (by rfl) (by omega)
    ⟨.refl _ _, by simp [go_sem], l, hs, rfl, fun j h => by omega⟩ ?_)
  rintro i tm H' K h1 h2 fr hq ⟨hw, t1, r, hr, hrl, hI⟩ hK
  have hsl : IntsAt H' s r := hr.slice
  (simp (disch := first | exact dsch | kernel_rfl) only [go_sem, ↓reduceIte, Nat.reduceEqDiff, Nat.reduceLT, Nat.reduceAdd, reduceCtorEq, Int.reduceToNat, Try.ntmps124, Try.results124, fr, hq, t1, hsl.len, hsl.ix, hr.st] <;> repeat' ((first | refine AK.drawT (by kernel_rfl) ?_ | ((first | refine ABK_mk ?_ ?_ | refine AGK_mk ?_ ?_) <;> intro hb <;> (try simp only [decide_eq_true_eq, decide_eq_false_iff_not, Bool.not_eq_true', Bool.not_eq_false', Bool.not_not] at hb) <;> (try (exfalso; omega)) <;> (try subst hb) <;> try simp only [hb, decide_true, decide_false])) <;> try simp (disch := first | exact dsch | kernel_rfl) only [go_sem, ↓reduceIte, Nat.reduceEqDiff, Nat.reduceLT, Nat.reduceAdd, reduceCtorEq, Int.reduceToNat, Try.ntmps124, Try.results124, fr, hq, t1, hsl.len, hsl.ix, hr.st]))
  · refine hK _ _ (by omega) (by rfl) ⟨hw.trans (wset_wrote hr (by omega)), by simp only [go_sem, Nat.reduceEqDiff, ↓reduceIte, AV.int.injEq, true_and]; omega, _, hr.set (by omega), by rw [List.length_set, hrl], fun j hj => ?_⟩
    rw [zgetD_set]
    by_cases e : i = j
    · subst e; rw [if_pos ⟨rfl, by omega⟩]
    · rw [if_neg (fun k => e k.1)]; exact hI j (by omega)
  · have ei : i = l.length := by omega
    refine ⟨by rw [ei], hw, ?_⟩
    have : r = (List.range l.length).map fun i => k + (i : Nat) := getD_ext (by simp [hrl]) fun j hj => by
      rw [hI j (by omega)]; have : j < l.length := by omega
      simp [List.getD, this]
    rwa [← this]

theorem heldIntS_ok (l : List Int) (k : Int) (s : AV) (H : AH) (hs : IntsAt H s l) (hl : l.length < 2147483648) (h0 : 0 ≤ k) (h1 : k < 2147483648) (hh : ∀ j < l.length, l.getD j 0 = k + (j : Nat)) :
    E 125 [s, .int .i64 k] H (Is (.int .i64 (k + l.length)) H) := by
  refine Ev.enterK (fn := Try.f125) rfl Try.func125 rfl (by kernel_rfl) (by simp [Try.ntmps125]) ?_
  (simp (disch := first | exact dsch | kernel_rfl) only [go_sem, ↓reduceIte, Nat.reduceEqDiff, Nat.reduceLT, Nat.reduceAdd, reduceCtorEq, Int.reduceToNat, Try.ntmps125, Try.results125, hs.len] <;> repeat' ((first | refine AK.drawT (by kernel_rfl) ?_ | ((first | refine ABK_mk ?_ ?_ | refine AGK_mk ?_ ?_) <;> intro hb <;> (try simp only [decide_eq_true_eq, decide_eq_false_iff_not, Bool.not_eq_true', Bool.not_eq_false', Bool.not_not] at hb) <;> (try (exfalso; omega)) <;> (try subst hb) <;> try simp only [hb, decide_true, decide_false])) <;> try simp (disch := first | exact dsch | kernel_rfl) only [go_sem, ↓reduceIte, Nat.reduceEqDiff, Nat.reduceLT, Nat.reduceAdd, reduceCtorEq, Int.reduceToNat, Try.ntmps125, Try.results125, hs.len]))
  refine (AK.countx 5 [1, 4, 5, 6, 7, 8, 9, 10, 11, 12, 13, 14, 15, 16, 17, 18, 19] (by kernel_rfl) 0 l.length (fun i tm H' => tm 1 = .int .i64 (k + (i : Nat))) (by rfl) (by omega) (by simp [go_sem]) ?_)
  rintro i tm H' K h1 h2 fr hq hx t1 hK
  have hhi := hh i
  (simp (disch := first | exact dsch | kernel_rfl) only [go_sem, ↓reduceIte, Nat.reduceEqDiff, Nat.reduceLT, Nat.reduceAdd, reduceCtorEq, Int.reduceToNat, Try.ntmps125, Try.results125, fr, hq, t1, hs.len, hs.ix, hs.ld] <;> repeat' ((first | refine AK.drawT (by kernel_rfl) ?_ | ((first | refine ABK_mk ?_ ?_ | refine AGK_mk ?_ ?_) <;> intro hb <;> (try simp only [decide_eq_true_eq, decide_eq_false_iff_not, Bool.not_eq_true', Bool.not_eq_false', Bool.not_not] at hb) <;> (try (exfalso; omega)) <;> (try subst hb) <;> try simp only [hb, decide_true, decide_false])) <;> try simp (disch := first | exact dsch | kernel_rfl) only [go_sem, ↓reduceIte, Nat.reduceEqDiff, Nat.reduceLT, Nat.reduceAdd, reduceCtorEq, Int.reduceToNat, Try.ntmps125, Try.results125, fr, hq, t1, hs.len, hs.ix, hs.ld]))
  · refine hK _ _ (by omega) (by rfl) (by exact xt) ?_
    simp only [go_sem, Nat.reduceEqDiff, ↓reduceIte, AV.int.injEq, true_and]; omega
  · have ei : i = l.length := by omega
    exact Is.mk (by rw [ei]) (by exact xt)

theorem markGraph_ok (l : List Int) (k : Int) (s : AV) (o : Bool) (n : Nat) (H : AH) (hn : n ≤ H.size) (hs : OwnAt n H s (ints l)) (hl : l.length < 2147483648) (h0 : 0 ≤ k) (h1 : k < 2147483648) :
    E 17 [.agg [s, .bool o], .int .i64 k] H fun v H' => v = .int .i64 (k + l.length) ∧ Wrote s H H' ∧ OwnAt n H' s (ints ((List.range l.length).map fun i => k + (i : Nat))) := by
  have hone := hs.slice.isOne
  refine Ev.enterK (fn := Try.f17) rfl Try.func17 rfl (by kernel_rfl) (by simp [Try.ntmps17]) ?_
  simp (disch := first | exact dsch | kernel_rfl) only [go_sem, ↓reduceIte, Nat.reduceEqDiff, Nat.reduceLT, Nat.reduceAdd, reduceCtorEq, Int.reduceToNat, Try.ntmps17, Try.results17]
  refine AOK_calls (markIntS_ok l k s n _ (hs.ext (Ext.young (by exact xt) n)) hl h0 h1) ?_
  rintro v H1 ⟨rfl, hw, ho⟩
  (simp (disch := first | exact dsch | kernel_rfl) only [go_sem, ↓reduceIte, Nat.reduceEqDiff, Nat.reduceLT, Nat.reduceAdd, reduceCtorEq, Int.reduceToNat, Try.ntmps17, Try.results17] <;> repeat' ((first | refine AK.drawT (by kernel_rfl) ?_ | ((first | refine ABK_mk ?_ ?_ | refine AGK_mk ?_ ?_) <;> intro hb <;> (try simp only [decide_eq_true_eq, decide_eq_false_iff_not, Bool.not_eq_true', Bool.not_eq_false', Bool.not_not] at hb) <;> (try (exfalso; omega)) <;> (try subst hb) <;> try simp only [hb, decide_true, decide_false])) <;> try simp (disch := first | exact dsch | kernel_rfl) only [go_sem, ↓reduceIte, Nat.reduceEqDiff, Nat.reduceLT, Nat.reduceAdd, reduceCtorEq, Int.reduceToNat, Try.ntmps17, Try.results17]))
  exact ⟨(Ext.wrote (by exact xt)).trans hw, ho⟩

theorem heldGraph_ok (l : List Int) (k : Int) (s : AV) (o : Bool) (H : AH) (hs : IntsAt H s l) (hl : l.length < 2147483648) (h0 : 0 ≤ k) (h1 : k < 2147483648) (hh : ∀ j < l.length, l.getD j 0 = k + (j : Nat)) :
    E 18 [.agg [s, .bool o], .int .i64 k] H (Is (.int .i64 (k + l.length)) H) := by
  refine Ev.enterK (fn := Try.f18) rfl Try.func18 rfl (by kernel_rfl) (by simp [Try.ntmps18]) ?_
  simp (disch := first | exact dsch | kernel_rfl) only [go_sem, ↓reduceIte, Nat.reduceEqDiff, Nat.reduceLT, Nat.reduceAdd, reduceCtorEq, Int.reduceToNat, Try.ntmps18, Try.results18]
  refine AOK_is (heldIntS_ok l k s _ (hs.ext (by exact xt)) hl h0 h1 hh) ?_
  intro H1 x1
  (simp (disch := first | exact dsch | kernel_rfl) only [go_sem, ↓reduceIte, Nat.reduceEqDiff, Nat.reduceLT, Nat.reduceAdd, reduceCtorEq, Int.reduceToNat, Try.ntmps18, Try.results18] <;> repeat' ((first | refine AK.drawT (by kernel_rfl) ?_ | ((first | refine ABK_mk ?_ ?_ | refine AGK_mk ?_ ?_) <;> intro hb <;> (try simp only [decide_eq_true_eq, decide_eq_false_iff_not, Bool.not_eq_true', Bool.not_eq_false', Bool.not_not] at hb) <;> (try (exfalso; omega)) <;> (try subst hb) <;> try simp only [hb, decide_true, decide_false])) <;> try simp (disch := first | exact dsch | kernel_rfl) only [go_sem, ↓reduceIte, Nat.reduceEqDiff, Nat.reduceLT, Nat.reduceAdd, reduceCtorEq, Int.reduceToNat, Try.ntmps18, Try.results18]))
  exact Is.mk rfl (by exact xt)

theorem toGraph_ok (l : List Int) (o : Bool) (s : AV) (H : AH) (hs : IntsAt H s l) (hl : l.length < 2147483648) :
    E 14 [.agg [s, .bool o]] H (Gives H fun v H' => ∃ u, v = .agg [u, .bool o] ∧ OwnAt H.size H' u (ints l)) := by
  refine Ev.enterK (fn := Try.f14) rfl Try.func14 rfl (by kernel_rfl) (by simp [Try.ntmps14]) ?_
  simp (disch := first | exact dsch | kernel_rfl) only [go_sem, ↓reduceIte, Nat.reduceEqDiff, Nat.reduceLT, Nat.reduceAdd, reduceCtorEq, Int.reduceToNat, Try.ntmps14, Try.results14]
  refine AOK_gives (toIntS_ok l s _ (hs.ext (by exact xt)) hl) ?_
  rintro u H1 x1 hu
  have hone := hu.slice.isOne
  (simp (disch := first | exact dsch | kernel_rfl) only [go_sem, ↓reduceIte, Nat.reduceEqDiff, Nat.reduceLT, Nat.reduceAdd, reduceCtorEq, Int.reduceToNat, Try.ntmps14, Try.results14] <;> repeat' ((first | refine AK.drawT (by kernel_rfl) ?_ | ((first | refine ABK_mk ?_ ?_ | refine AGK_mk ?_ ?_) <;> intro hb <;> (try simp only [decide_eq_true_eq, decide_eq_false_iff_not, Bool.not_eq_true', Bool.not_eq_false', Bool.not_not] at hb) <;> (try (exfalso; omega)) <;> (try subst hb) <;> try simp only [hb, decide_true, decide_false])) <;> try simp (disch := first | exact dsch | kernel_rfl) only [go_sem, ↓reduceIte, Nat.reduceEqDiff, Nat.reduceLT, Nat.reduceAdd, reduceCtorEq, Int.reduceToNat, Try.ntmps14, Try.results14]))
  refine ⟨by exact xt, u, rfl, (hu.ext ?_).le (by simp only [push_size]; omega)⟩
  rw [young_put (by simp only [push_size]; omega), young_put (by simp only [push_size]; omega)]
  exact Ext.refl _

theorem OwnAt.sb_lt {n : Nat} {H : AH} {v : AV} {cs : List AV} (h : OwnAt n H v cs) : v = .nilsl ∨ v.sb < H.size := h.imp (·.1) fun ⟨b, o, k, xs, h1, h2, h3, _⟩ => by subst h1; exact AH.cells_lt h3
theorem blk_sans {H : AH} {v : AV} {c : Nat} (h : v = .nilsl ∨ v.sb ≠ c) : (H.sans v).blk c = H.blk c := by
  rcases h with rfl | h
  · rfl
  · cases v <;> try rfl
    exact put_blk_ne (fun e => h e.symm)
/-- Behind a write: what lies in other blocks. -/
theorem Wrote.blk {v : AV} {H H' : AH} (h : Wrote v H H') {c e : Nat} {ro : Bool} {xs : List AV} (hc : v = .nilsl ∨ v.sb ≠ c) (hb : H.blk c = .cells e ro xs) : H'.blk c = .cells e ro xs := by
  have := Ext.cells h (b := c) (by rw [blk_sans hc]; exact hb)
  rwa [blk_sans hc] at this
theorem Wrote.slice {v w : AV} {H H' : AH} (h : Wrote v H H') {e : Nat} {cs : List AV} (hc : v = .nilsl ∨ w = .nilsl ∨ v.sb ≠ w.sb) (hw : SliceAt H w e cs) : SliceAt H' w e cs := by
  rcases hw with hw | ⟨b, o, n, ro, xs, rfl, h2, h3, h4⟩
  · exact .inl hw
  · refine .inr ⟨b, o, n, ro, xs, rfl, h.blk ?_ h2, h3, h4⟩
    rcases hc with hc | hc | hc
    · exact .inl hc
    · cases hc
    · exact .inr hc
theorem Wrote.own {v w : AV} {H H' : AH} (h : Wrote v H H') {n : Nat} {cs : List AV} (hc : v = .nilsl ∨ w = .nilsl ∨ v.sb ≠ w.sb) (hw : OwnAt n H w cs) : OwnAt n H' w cs := by
  rcases hw with hw | ⟨b, o, k, xs, rfl, h2, h3, h4⟩
  · exact .inl hw
  · refine .inr ⟨b, o, k, xs, rfl, h2, h.blk ?_ h3, h4⟩
    rcases hc with hc | hc | hc
    · exact .inl hc
    · cases hc
    · exact .inr hc
theorem OwnAt.sb_ge {n : Nat} {H : AH} {v : AV} {cs : List AV} (h : OwnAt n H v cs) : v = .nilsl ∨ n ≤ v.sb := h.imp (·.1) fun ⟨b, o, k, xs, h1, h2, _⟩ => by subst h1; exact h2
theorem SliceAt.sb_lt {H : AH} {v : AV} {e : Nat} {cs : List AV} (h : SliceAt H v e cs) : v = .nilsl ∨ v.sb < H.size := h.imp (·.1) fun ⟨b, o, n, ro, xs, h1, h2, _⟩ => by subst h1; exact AH.cells_lt h2
theorem ld_lgraph {H H' : AH} {b : Nat} {ro : Bool} {x y : AV} (h : H.blk b = .cells 2 ro [x, y]) (e : Ext H H') : aload1 TA H' 24 (.ptr b 0) = some (.agg [x, y], H') :=
  aload_agg (t := 24) (d := td24) (o := 0) rfl rfl (e.cells h) (Nat.le_refl 2)

end Go.Proofs.Ytopbfmhajbjepaa
