/- Contracts: graphs that are drawn, spoilt ones too. -/
import Derived.Test.YtopbfmhajbjepaaD3
namespace Go.Proofs.Ytopbfmhajbjepaa
open Go
set_option linter.unusedSimpArgs false
set_option linter.unusedVariables false

theorem drop_blk {H : AH} {W : Nat → Prop} {k : Nat} (h : ¬ W k) : (H.drop W).blk k = H.blk k := by simp [AH.drop, h]
theorem AH.eq {A B : AH} (h1 : A.size = B.size) (h2 : ∀ k, A.blk k = B.blk k) : A = B := by
  cases A; cases B; simp only at h1 h2; subst h1; congr 1; exact funext h2
theorem drop_push {H : AH} {W : Nat → Prop} {x : ABlk} (h : ¬ W H.size) : (H.drop W).push x = (H.push x).drop W := by
  refine AH.eq rfl fun k => ?_
  by_cases e : k = H.size
  · subst e
    rw [drop_blk h, AH.push_same]
    exact AH.push_same (H.drop W) x
  · simp only [AH.drop, AH.push]
    by_cases hw : W k <;> simp [hw, e]
theorem QX.but {W : Nat → Prop} {b : Nat} {H H' : AH} (h : But b H H') (hW : W b) : QX W H H' := fun k hk hw => h.blk (fun e => hw (e ▸ hW)) hk
theorem QX.put {W : Nat → Prop} {b : Nat} {H : AH} {x : ABlk} (hW : W b) : QX W H (H.put b x) := fun k hk hw => by rw [put_blk_ne]; rintro rfl; exact hw hW
theorem quiet_rfl {H : AH} : Quiet H H := fun _ _ => rfl

theorem abuildSlice_drop {T : TT} {H H1 : AH} {t : TypeId} {len : Nat} {ps : List (Nat × AV)} {v : AV} (h : abuildSlice T H t len ps = some (v, H1)) : ∃ x, H1 = H.push x ∧ ∀ K : AH, K.size = H.size → abuildSlice T K t len ps = some (v, K.push x) := by
  unfold abuildSlice at h
  cases hT : T t with
  | none => rw [hT] at h; cases h
  | some d =>
    rw [hT] at h
    cases hd : d.d <;> simp only [hd, reduceCtorEq] at h
    rename_i e
    cases he : T e with
    | none => rw [he] at h; cases h
    | some de =>
      simp only [he] at h
      split at h
      · cases h
      · rename_i hn
        cases hf : afill (fun i => some (i * de.size, de.size)) (List.replicate len de.zero).flatten ps with
        | none => rw [hf] at h; cases h
        | some cells =>
          rw [hf] at h
          simp only [Option.some.injEq, Prod.mk.injEq] at h
          obtain ⟨rfl, rfl⟩ := h
          exact ⟨_, rfl, fun K hK => by unfold abuildSlice; simp only [hT, hd, he, if_neg hn, hf, hK]⟩
@[go_sem high] theorem bs_ints2 {H : AH} {x0 x1 : Int} : abuildSlice TA H 22 2 [(0, .int .i64 x0), (1, .int .i64 x1)] = some (.sl H.size 0 2, H.push (.cells 1 false (ints [x0, x1]))) := by kernel_rfl
@[go_sem high] theorem bs_ints3 {H : AH} {x0 x1 x2 : Int} : abuildSlice TA H 22 3 [(0, .int .i64 x0), (1, .int .i64 x1), (2, .int .i64 x2)] = some (.sl H.size 0 3, H.push (.cells 1 false (ints [x0, x1, x2]))) := by kernel_rfl
@[go_sem high] theorem bs_ints4 {H : AH} {x0 x1 x2 x3 : Int} : abuildSlice TA H 22 4 [(0, .int .i64 x0), (1, .int .i64 x1), (2, .int .i64 x2), (3, .int .i64 x3)] = some (.sl H.size 0 4, H.push (.cells 1 false (ints [x0, x1, x2, x3]))) := by kernel_rfl
@[go_sem high] theorem bs_ints5 {H : AH} {x0 x1 x2 x3 x4 : Int} : abuildSlice TA H 22 5 [(0, .int .i64 x0), (1, .int .i64 x1), (2, .int .i64 x2), (3, .int .i64 x3), (4, .int .i64 x4)] = some (.sl H.size 0 5, H.push (.cells 1 false (ints [x0, x1, x2, x3, x4]))) := by kernel_rfl
@[go_sem high] theorem bs_ints6 {H : AH} {x0 x1 x2 x3 x4 x5 : Int} : abuildSlice TA H 22 6 [(0, .int .i64 x0), (1, .int .i64 x1), (2, .int .i64 x2), (3, .int .i64 x3), (4, .int .i64 x4), (5, .int .i64 x5)] = some (.sl H.size 0 6, H.push (.cells 1 false (ints [x0, x1, x2, x3, x4, x5]))) := by kernel_rfl
@[go_sem high] theorem bs_ints10 {H : AH} {x0 x1 x2 x3 x4 x5 x6 x7 x8 x9 : Int} : abuildSlice TA H 22 10 [(0, .int .i64 x0), (1, .int .i64 x1), (2, .int .i64 x2), (3, .int .i64 x3), (4, .int .i64 x4), (5, .int .i64 x5), (6, .int .i64 x6), (7, .int .i64 x7), (8, .int .i64 x8), (9, .int .i64 x9)] = some (.sl H.size 0 10, H.push (.cells 1 false (ints [x0, x1, x2, x3, x4, x5, x6, x7, x8, x9]))) := by kernel_rfl
section
variable {P : Program} {prims : PrimT} {n : Nat} {ks : List KI} {tm : Tm} {H : AH} {Q : AExit → Tm → AH → Prop} {ops : Array Oper} {tot : List Nat} {i : Nat} {rest : List Oper}
theorem ASK_load {d : Option Tmp} {t : TypeId} {a : Operand} {W : Nat → Prop} {ind : List Nat} {v : AV} (h : aload1 TA (H.drop W) t (ev tm a) = some (v, H.drop W)) (hk : VK P TA prims n ops (.yes W ind) tot (i + 1) rest ks (tm.put d v) H Q) :
    ASK P TA prims n ops (.yes W ind) tot i d (.load t a) rest ks tm H Q (some (v, H)) := ASK_ind quiet_rfl (fun b h1 h2 => by omega) h hk
theorem ASK_buildS {d : Option Tmp} {t : TypeId} {len : Nat} {parts : Array (Nat × Operand)} {W : Nat → Prop} {ind : List Nat} {v : AV} {H1 : AH} (hW : ¬ W H.size) (h : abuildSlice TA H t len (parts.toList.map fun (i, x) => (i, ev tm x)) = some (v, H1))
    (hk : VK P TA prims n ops (.yes W ind) tot (i + 1) rest ks (tm.put d v) H1 Q) :
    ASK P TA prims n ops (.yes W ind) tot i d (.buildSlice t len parts) rest ks tm H Q (some (v, H1)) := by
  obtain ⟨x, rfl, hK⟩ := abuildSlice_drop h
  refine ASK_ind (fun b hb => (Ext.push H x).quiet b hb) (fun b h1 h2 => ?_) ?_ hk
  · have : b = H.size := by rw [push_size] at h2; omega
    rw [this]; exact hW
  · show abuildSlice TA (H.drop W) _ _ _ = _
    exact (hK (H.drop W) rfl).trans (by rw [drop_push hW])
end

/-- What is drawn as a graph, which may be spoilt. -/
def DrawnW (n0 : Nat) (H : AH) (v : AV) : Prop := ∃ s o l, v = .agg [s, .bool o] ∧ IntsAt H s l ∧ l.length ≤ 17 ∧ (s = .nilsl ∨ n0 ≤ s.sb)
theorem DrawnW.ext {n0 : Nat} {H H' : AH} {v : AV} (h : DrawnW n0 H v) (x : Ext H H') : DrawnW n0 H' v := by
  obtain ⟨s, o, l, h1, h2, h3, h4⟩ := h
  exact ⟨s, o, l, h1, h2.ext x, h3, h4⟩
theorem DrawnW.but {n0 b : Nat} {H H' : AH} {v : AV} (h : DrawnW n0 H v) (x : But b H H') (hb : b < n0) : DrawnW n0 H' v := by
  obtain ⟨s, o, l, h1, h2, h3, h4⟩ := h
  exact ⟨s, o, l, h1, x.slice (h4.imp id fun h => by omega) h2, h3, h4⟩
theorem zs_take' (l : List Nat) (n : Nat) : zs (l.take n) = (zs l).take n := by simp [zs]

set_option maxRecDepth 10000 in
theorem graph_ok (b A most : Nat) (H : AH) (hc : Cur H b A) (hA : A < 4611686018427370000) (hm : 1 ≤ most) (hm2 : most ≤ 14) : E 181 [.ptr b 0, .int .i64 most] H (Draws b A 500 H fun v H' => DrawnW H.size H' v) := by
  have hbH := hc.lt
  refine Ev.enterK (fn := Try.f181) rfl Try.func181 rfl (by kernel_rfl) (by simp [Try.ntmps181]) ?_
  simp (disch := first | exact dsch | kernel_rfl) only [go_sem, ↓reduceIte, Nat.reduceEqDiff, Nat.reduceLT, Nat.reduceAdd, reduceCtorEq, Int.reduceToNat, Try.ntmps181, Try.results181]
  generalize hH : H.push (.cells 2 false [.nilsl, .bool false]) = Hc
  have hHs : Hc.size = H.size + 1 := by rw [← hH]; rfl
  have hHx : Ext H Hc := by rw [← hH]; exact Ext.push _ _
  have hHb : Hc.blk H.size = .cells 2 false [.nilsl, .bool false] := by rw [← hH]; exact AH.push_same _ _
  have n4 : H.size ≠ b := by omega
  have fin : ∀ (H1 : AH) (s : AV) (o : Bool) (l : List Int), But b H H1 → Cur H1 b (A + 500) → H1.blk H.size = .cells 2 false [.nilsl, .bool false] → IntsAt H1 s l → l.length ≤ 17 → (s = .nilsl ∨ H.size + 1 ≤ s.sb) →
      Draws b A 500 H (fun v H' => DrawnW H.size H' v) (.agg [s, .bool o]) (H1.put H.size (.cells 2 false [s, .bool o])) := by
    intro H1 s o l k1 k2 k3 h1 h2 h3
    refine ⟨k1.putnew (Nat.le_refl _) _, k2.put (by omega) _, s, o, l, rfl, ?_, h2, h3.imp id fun h => by omega⟩
    exact (But.put H.size H1 _).slice (h3.imp id fun h => by omega) h1
  refine AOK_calls (sureGraph_ok b A most Hc (hc.ext hHx) (by omega) hm hm2) ?_
  rintro _ H1 ⟨b1, c1, n, o, l, g, hn1, hn16⟩
  have f1 := b1
  have b1 := (hHx.but b).trans b1
  obtain ⟨c, rfl, hcl, hr⟩ := g.form
  have hln := g.len
  have hrl := hr.lt
  simp (disch := first | exact dsch | kernel_rfl) only [go_sem, ↓reduceIte, Nat.reduceEqDiff, Nat.reduceLT, Nat.reduceAdd, reduceCtorEq, Int.reduceToNat, Try.ntmps181, Try.results181]
  generalize hcb : H1.size = cb
  have k1 : H1.blk H.size = .cells 2 false [.nilsl, .bool false] := f1.cells n4 hHb
  generalize hH2 : H1.push (.cells 2 false [.sl c 0 n, .bool o]) = H2
  have x2 : Ext H1 H2 := by rw [← hH2]; exact Ext.push _ _
  have bx2 : H2.blk cb = .cells 2 false [.sl c 0 n, .bool o] := by rw [← hH2, ← hcb]; exact AH.push_same _ _
  have hs2 : H2.size = cb + 1 := by rw [← hH2, ← hcb]; rfl
  have hbs := f1.size
  refine AOK_calls (pick_ok b (A + 400) 18 H2 (c1.ext x2) (by omega)) ?_
  rintro _ H3 ⟨b3, c3, x, rfl, hx, _⟩
  have ncb : cb ≠ b := by omega
  have nc : c ≠ b := by omega
  have ncc : c ≠ cb := by omega
  have nh : H.size ≠ cb := by omega
  have nhc : H.size ≠ c := by omega
  have bx3 := b3.cells ncb bx2
  have k3 : H3.blk H.size = .cells 2 false [.nilsl, .bool false] := b3.cells n4 (x2.cells k1)
  have r3 : RowAt H3 c l := b3.row nc (hr.ext x2)
  have b13 : But b H H3 := (b1.trans (x2.but b)).trans b3
  have hs3 := b3.size
  have ldg : ∀ {Hx : AH}, Hx.blk cb = .cells 2 false [.sl c 0 n, .bool o] → aload1 TA Hx 22 (.ptr cb 0) = some (.sl c 0 n, Hx) := fun h => aload_cell (t := 22) rfl rfl h rfl
  have ldo : ∀ {Hx : AH} {s : AV}, Hx.blk cb = .cells 2 false [s, .bool o] → aload1 TA Hx 4 (.ptr cb 1) = some (.bool o, Hx) := fun h => aload_cell (t := 4) rfl rfl h rfl
  by_cases x0 : x = 0
  · have d0 : decide ((x : Int) = 0) = true := by simp [x0]
    simp (disch := first | exact dsch | kernel_rfl) only [go_sem, ↓reduceIte, Nat.reduceEqDiff, Nat.reduceLT, Nat.reduceAdd, reduceCtorEq, Int.reduceToNat, Try.ntmps181, Try.results181, d0]
    refine AK.drawW (fun k => k = b ∨ k = c) [1, 8] (by kernel_rfl) ?_
    simp (disch := first | exact dsch | kernel_rfl) only [go_sem, ↓reduceIte, Nat.reduceEqDiff, Nat.reduceLT, Nat.reduceAdd, reduceCtorEq, Int.reduceToNat, Try.ntmps181, Try.results181, ldg bx3]
    refine ASK_load ?_ ?_
    · simp (disch := first | exact dsch | kernel_rfl) only [go_sem, ↓reduceIte, Nat.reduceEqDiff, Nat.reduceLT, Nat.reduceAdd, reduceCtorEq, Int.reduceToNat, Try.ntmps181, Try.results181, ldg (Hx := H3.drop (fun k => k = b ∨ k = c)) (by rw [drop_blk (by omega)]; exact bx3)]
    have hlen3 : alen TA H3 22 (.sl c 0 n) = some (.int .i64 n) := by have := NatsAt.len r3.nats (Ext.refl H3); rwa [hln] at this
    simp (disch := first | exact dsch | kernel_rfl) only [go_sem, ↓reduceIte, Nat.reduceEqDiff, Nat.reduceLT, Nat.reduceAdd, reduceCtorEq, Int.reduceToNat, Try.ntmps181, Try.results181, ldg bx3, hlen3]
    refine AOK_callw (by kernel_rfl) (by rfl) (pick_ok b (A + 400 + 2) n H3 c3 (by omega)) ?_
    rintro _ H4 ⟨b4, c4, y, rfl, hy, _⟩
    refine ⟨QX.but b4 (.inl rfl), ?_⟩
    have r4 := b4.row nc r3
    have hs4 := b4.size
    simp (disch := first | exact dsch | kernel_rfl) only [go_sem, ↓reduceIte, Nat.reduceEqDiff, Nat.reduceLT, Nat.reduceAdd, reduceCtorEq, Int.reduceToNat, Try.ntmps181, Try.results181]
    refine ASK_buildS (by omega) (by simp (disch := first | exact dsch | kernel_rfl) only [go_sem, ↓reduceIte, Nat.reduceEqDiff, Nat.reduceLT, Nat.reduceAdd, reduceCtorEq, Int.reduceToNat, Try.ntmps181, Try.results181]) ?_
    simp (disch := first | exact dsch | kernel_rfl) only [go_sem, ↓reduceIte, Nat.reduceEqDiff, Nat.reduceLT, Nat.reduceAdd, reduceCtorEq, Int.reduceToNat, Try.ntmps181, Try.results181]
    generalize hH5 : H4.push _ = H5
    have x5 : Ext H4 H5 := by rw [← hH5]; exact Ext.push _ _
    have i5 : IntsAt H5 (.sl H4.size 0 6) [-1, 1, 2, 3, 65536, 4611686018427387904] := by rw [← hH5]; exact .inr ⟨_, _, _, _, _, rfl, AH.push_same _ _, by simp, by simp⟩
    refine AOK_callw (by kernel_rfl) (by rfl) (among_ok b (A + 400 + 2 + 2) _ _ H5 (c4.ext x5) (by omega) i5 (.inr (by show H4.size ≠ b; have := c4.lt; omega)) (by simp) (by simp)) ?_
    rintro _ H6 ⟨b6, c6, z, rfl, hz⟩
    refine ⟨QX.but b6 (.inl rfl), ?_⟩
    have r6 := b6.row nc (r4.ext x5)
    have k6 := b6.cells n4 (x5.cells (b4.cells n4 k3))
    have bx6 := b6.cells ncb (x5.cells (b4.cells ncb bx3))
    have hs6 := b6.size
    have hs5 := x5.size
    have hy' : y < n := by omega
    have ix6 : aindexAddr TA 22 (.sl c 0 n) (.int .i64 y) = some (.ptr c y) := by
      have := sl_ix (t := 22) (te := 3) rfl rfl rfl rfl (b := c) (o := 0) (n := n) (i := (y : Int)) (by omega) (by omega)
      simpa using this
    have st6 : astore1 TA H6 3 (.ptr c y) (.int .i64 z) = some (.undef, H6.put c (.cells 1 false ((ints (zs l)).set y (.int .i64 z)))) := astore_cell (t := 3) rfl rfl rfl r6 (by simp; omega) rfl
    simp (disch := first | exact dsch | kernel_rfl) only [go_sem, ↓reduceIte, Nat.reduceEqDiff, Nat.reduceLT, Nat.reduceAdd, reduceCtorEq, Int.reduceToNat, Try.ntmps181, Try.results181, ix6, st6]
    refine (ASK_w (by rfl) (by kernel_rfl) (QX.put (.inr rfl))).2 ?_
    simp only [VK_plain, VK_nil, AX_ncode]
    have hz17 : ((zs l).set y z).length ≤ 17 := by simp; omega
    have i7 : ∀ {Hx : AH}, Hx.blk c = .cells 1 false ((ints (zs l)).set y (.int .i64 z)) → IntsAt Hx (.sl c 0 n) ((zs l).set y z) := fun h => .inr ⟨_, _, _, _, _, rfl, h, by simp; omega, by rw [List.drop_zero, List.take_of_length_le (by simp; omega)]; simp [ints, List.map_set]⟩
    have hH4 : H6.blk c = .cells 1 false (ints (zs l)) := r6
    have hr6 := r6.lt
    have B6 : But b H H6 := ((b13.trans b4).trans (x5.but b)).trans b6
    have hf := fin (H6.put c (.cells 1 false ((ints (zs l)).set y (.int .i64 z)))) (.sl c 0 n) o _ (B6.putnew (by omega) _) ((c6.put (by omega) _).le (by omega)) (by rw [put_blk_ne nhc]; exact k6) (i7 (put_blk_same hr6)) hz17 (.inr (by show H.size + 1 ≤ c; omega))
    have bx7 : (H6.put c (.cells 1 false ((ints (zs l)).set y (.int .i64 z)))).blk cb = .cells 2 false [.sl c 0 n, .bool o] := by rw [put_blk_ne (by omega)]; exact bx6
    have k7 : (H6.put c (.cells 1 false ((ints (zs l)).set y (.int .i64 z)))).blk H.size = .cells 2 false [.nilsl, .bool false] := by rw [put_blk_ne nhc]; exact k6
    (simp (disch := first | exact dsch | kernel_rfl) only [go_sem, ↓reduceIte, Nat.reduceEqDiff, Nat.reduceLT, Nat.reduceAdd, reduceCtorEq, Int.reduceToNat, Try.ntmps181, Try.results181, ld_graph bx7, st_graph (o := o) k7 (show AV.one (.sl c 0 n) = true from rfl)] <;> repeat' ((first | refine AK.drawT (by kernel_rfl) ?_ | ((first | refine ABK_mk ?_ ?_ | refine AGK_mk ?_ ?_) <;> intro hb <;> (try simp only [decide_eq_true_eq, decide_eq_false_iff_not, Bool.not_eq_true', Bool.not_eq_false', Bool.not_not] at hb) <;> (try (exfalso; omega)) <;> (try subst hb) <;> try simp only [hb, decide_true, decide_false])) <;> try simp (disch := first | exact dsch | kernel_rfl) only [go_sem, ↓reduceIte, Nat.reduceEqDiff, Nat.reduceLT, Nat.reduceAdd, reduceCtorEq, Int.reduceToNat, Try.ntmps181, Try.results181, ld_graph bx7, st_graph (o := o) k7 (show AV.one (.sl c 0 n) = true from rfl)]))
    exact hf
  have d0 : decide ((x : Int) = 0) = false := by simp [x0]
  by_cases x1 : x = 1
  · have d1 : decide ((x : Int) = 1) = true := by simp [x1]
    have sx : astore1 TA H3 22 (.ptr cb 0) .nilsl = some (.undef, H3.put cb (.cells 2 false [.nilsl, .bool o])) := astore_cell (t := 22) rfl rfl rfl bx3 (by simp) rfl
    have k7 : (H3.put cb (.cells 2 false [.nilsl, .bool o])).blk H.size = .cells 2 false [.nilsl, .bool false] := by rw [put_blk_ne nh]; exact k3
    have bx7 : (H3.put cb (.cells 2 false [.nilsl, .bool o])).blk cb = .cells 2 false [.nilsl, .bool o] := put_blk_same (AH.cells_lt bx3)
    have hf := fin (H3.put cb (.cells 2 false [.nilsl, .bool o])) .nilsl o [] (b13.putnew (by omega) _) ((c3.put (by omega) _).le (by omega)) k7 (.inl ⟨rfl, rfl⟩) (by simp) (.inl rfl)
    (simp (disch := first | exact dsch | kernel_rfl) only [go_sem, ↓reduceIte, Nat.reduceEqDiff, Nat.reduceLT, Nat.reduceAdd, reduceCtorEq, Int.reduceToNat, Try.ntmps181, Try.results181, d0, d1, sx, ld_graph bx7, st_graph (o := o) k7 (show AV.one .nilsl = true from rfl)] <;> repeat' ((first | refine AK.drawT (by kernel_rfl) ?_ | ((first | refine ABK_mk ?_ ?_ | refine AGK_mk ?_ ?_) <;> intro hb <;> (try simp only [decide_eq_true_eq, decide_eq_false_iff_not, Bool.not_eq_true', Bool.not_eq_false', Bool.not_not] at hb) <;> (try (exfalso; omega)) <;> (try subst hb) <;> try simp only [hb, decide_true, decide_false])) <;> try simp (disch := first | exact dsch | kernel_rfl) only [go_sem, ↓reduceIte, Nat.reduceEqDiff, Nat.reduceLT, Nat.reduceAdd, reduceCtorEq, Int.reduceToNat, Try.ntmps181, Try.results181, d0, d1, sx, ld_graph bx7, st_graph (o := o) k7 (show AV.one .nilsl = true from rfl)]))
    exact hf
  have d1 : decide ((x : Int) = 1) = false := by simp; omega
  by_cases x2 : x = 2 ∨ x = 3
  · by_cases x2 : x = 2
    · have d2 : decide ((x : Int) = 2) = true := by simp [x2]
      simp (disch := first | exact dsch | kernel_rfl) only [go_sem, ↓reduceIte, Nat.reduceEqDiff, Nat.reduceLT, Nat.reduceAdd, reduceCtorEq, Int.reduceToNat, Try.ntmps181, Try.results181, d0, d1, d2, ldo bx3]
      refine AOK_gives (grPath_ok 16 o H3 (by omega) (by omega)) ?_
      intro v H4 x4 g4
      obtain ⟨c5, rfl, hc5, r5⟩ := g4.form
      have hl5 := g4.len
      have hr5 := r5.lt
      have bx4 := x4.cells bx3
      have sx := st_graph (s := .sl c5 0 16) (o := o) bx4 rfl
      generalize hH5 : H4.put cb (.cells 2 false [.sl c5 0 16, .bool o]) = H5 at *
      have bx5 : H5.blk cb = .cells 2 false [.sl c5 0 16, .bool o] := by rw [← hH5]; exact put_blk_same (AH.cells_lt bx4)
      have r5' : RowAt H5 c5 (pathL 16) := by rw [← hH5]; exact r5.putne (by omega)
      have k5 : H5.blk H.size = .cells 2 false [.nilsl, .bool false] := by rw [← hH5, put_blk_ne nh]; exact x4.cells k3
      have b5 : But b H H5 := by rw [← hH5]; exact (b13.trans (x4.but b)).putnew (by omega) _
      have c5c : Cur H5 b (A + 400 + 2) := by rw [← hH5]; exact (c3.ext x4).put (by omega) _
      have ld5 : aload1 TA H5 22 (.ptr cb 0) = some (.sl c5 0 16, H5) := aload_cell (t := 22) rfl rfl bx5 rfl
      have hs45 : H5.size = H4.size := by rw [← hH5]; rfl
      have hs34 := x4.size
      have ow : OwnC H H5 (.sl c5 0 16) (ints (zs (pathL 16))) := .inr ⟨c5, by simp [hl5], by omega, r5'⟩
      have ap := ow.app_ints (k := .i64) (n := 0) (ints_one _) (by simp [hl5]) (Ext.refl H5)
      simp (disch := first | exact dsch | kernel_rfl) only [go_sem, ↓reduceIte, Nat.reduceEqDiff, Nat.reduceLT, Nat.reduceAdd, reduceCtorEq, Int.reduceToNat, Try.ntmps181, Try.results181, sx, ld5, ap]
      have se : (H5.push (.cells 1 false [.int .i64 0])).sans (.sl c5 0 16) = (H5.push (.cells 1 false [.int .i64 0])).put c5 .dead := rfl
      have bp5 : But b H (H5.push (.cells 1 false [.int .i64 0])) := b5.trans ((Ext.push _ _).but b)
      have cp5 : Cur (H5.push (.cells 1 false [.int .i64 0])) b (A + 400 + 2) := c5c.ext (Ext.push _ _)
      have cl5 := AH.cells_lt bx5
      have cq5 := AH.cells_lt k5
      have bb5 : (H5.push (.cells 1 false [.int .i64 0])).blk cb = .cells 2 false [.sl c5 0 16, .bool o] := (Ext.push H5 _).cells bx5
      have kk5 : (H5.push (.cells 1 false [.int .i64 0])).blk H.size = .cells 2 false [.nilsl, .bool false] := (Ext.push H5 _).cells k5
      rw [se]
      have hs9 : ((H5.push (.cells 1 false [.int .i64 0])).put c5 .dead).size = H5.size + 1 := rfl
      have b9 : But b H ((H5.push (.cells 1 false [.int .i64 0])).put c5 .dead) := bp5.putnew (by omega) _
      have c9 : Cur ((H5.push (.cells 1 false [.int .i64 0])).put c5 .dead) b (A + 400 + 2) := cp5.put (by omega) _
      have bx9 : ((H5.push (.cells 1 false [.int .i64 0])).put c5 .dead).blk cb = .cells 2 false [.sl c5 0 16, .bool o] := by rw [put_blk_ne (by omega)]; exact bb5
      have k9 : ((H5.push (.cells 1 false [.int .i64 0])).put c5 .dead).blk H.size = .cells 2 false [.nilsl, .bool false] := by rw [put_blk_ne (by omega)]; exact kk5
      generalize (H5.push (.cells 1 false [.int .i64 0])).put c5 .dead = H9 at *
      have e17 : (ints (zs (pathL 16))).length + 1 = 17 := by simp [hl5]
      rw [e17]
      generalize hH8 : H9.push (.cells 1 false (ints (zs (pathL 16)) ++ [.int .i64 0])) = H8
      have x8 : Ext H9 H8 := by rw [← hH8]; exact Ext.push _ _
      have hs8 : H8.size = H9.size + 1 := by rw [← hH8]; rfl
      have i8 : H8.blk H9.size = .cells 1 false (ints (zs (pathL 16)) ++ [.int .i64 0]) := by rw [← hH8]; exact AH.push_same _ _
      have bx8 := x8.cells bx9
      have k8 := x8.cells k9
      have sx8 : astore1 TA H8 22 (.ptr cb 0) (.sl H9.size 0 17) = some (.undef, H8.put cb (.cells 2 false [.sl H9.size 0 17, .bool o])) := astore_cell (t := 22) rfl rfl rfl bx8 (by simp) rfl
      have bx7 : (H8.put cb (.cells 2 false [.sl H9.size 0 17, .bool o])).blk cb = .cells 2 false [.sl H9.size 0 17, .bool o] := put_blk_same (AH.cells_lt bx8)
      have k7 : (H8.put cb (.cells 2 false [.sl H9.size 0 17, .bool o])).blk H.size = .cells 2 false [.nilsl, .bool false] := by rw [put_blk_ne nh]; exact k8
      have hl8 : H.size < (H8.put cb (.cells 2 false [.sl H9.size 0 17, .bool o])).size := by have := AH.cells_lt k7; exact this
      have hf := fin (H8.put cb (.cells 2 false [.sl H9.size 0 17, .bool o])) (.sl H9.size 0 17) o (zs (pathL 16) ++ [0]) ((b9.trans (x8.but b)).putnew (by omega) _) (((c9.ext x8).put (by omega) _).le (by omega)) k7
        (.inr ⟨_, _, _, _, _, rfl, by rw [put_blk_ne (by omega)]; exact i8, by simp [hl5], by rw [List.drop_zero, List.take_of_length_le (by simp [hl5])]; simp [ints]⟩) (by simp [hl5]) (.inr (by show H.size + 1 ≤ H9.size; omega))
      (simp (disch := first | exact dsch | kernel_rfl) only [go_sem, ↓reduceIte, Nat.reduceEqDiff, Nat.reduceLT, Nat.reduceAdd, reduceCtorEq, Int.reduceToNat, Try.ntmps181, Try.results181, sx8, ld_graph bx7, st_graph (o := o) k7 (show AV.one (.sl H9.size 0 17) = true from rfl)] <;> repeat' ((first | refine AK.drawT (by kernel_rfl) ?_ | ((first | refine ABK_mk ?_ ?_ | refine AGK_mk ?_ ?_) <;> intro hb <;> (try simp only [decide_eq_true_eq, decide_eq_false_iff_not, Bool.not_eq_true', Bool.not_eq_false', Bool.not_not] at hb) <;> (try (exfalso; omega)) <;> (try subst hb) <;> try simp only [hb, decide_true, decide_false])) <;> try simp (disch := first | exact dsch | kernel_rfl) only [go_sem, ↓reduceIte, Nat.reduceEqDiff, Nat.reduceLT, Nat.reduceAdd, reduceCtorEq, Int.reduceToNat, Try.ntmps181, Try.results181, sx8, ld_graph bx7, st_graph (o := o) k7 (show AV.one (.sl H9.size 0 17) = true from rfl)]))
      exact hf
    · have x3 : x = 3 := by omega
      have d2 : decide ((x : Int) = 2) = false := decide_eq_false (by omega)
      have d3 : decide ((x : Int) = 3) = true := by simp [x3]
      simp (disch := first | exact dsch | kernel_rfl) only [go_sem, ↓reduceIte, Nat.reduceEqDiff, Nat.reduceLT, Nat.reduceAdd, reduceCtorEq, Int.reduceToNat, Try.ntmps181, Try.results181, d0, d1, d2, d3, ldo bx3]
      refine AOK_gives (grPath_ok 16 o H3 (by omega) (by omega)) ?_
      intro v H4 x4 g4
      obtain ⟨c5, rfl, hc5, r5⟩ := g4.form
      have hl5 := g4.len
      have hr5 := r5.lt
      have bx4 := x4.cells bx3
      have sx := st_graph (s := .sl c5 0 16) (o := o) bx4 rfl
      generalize hH5 : H4.put cb (.cells 2 false [.sl c5 0 16, .bool o]) = H5 at *
      have bx5 : H5.blk cb = .cells 2 false [.sl c5 0 16, .bool o] := by rw [← hH5]; exact put_blk_same (AH.cells_lt bx4)
      have r5' : RowAt H5 c5 (pathL 16) := by rw [← hH5]; exact r5.putne (by omega)
      have k5 : H5.blk H.size = .cells 2 false [.nilsl, .bool false] := by rw [← hH5, put_blk_ne nh]; exact x4.cells k3
      have b5 : But b H H5 := by rw [← hH5]; exact (b13.trans (x4.but b)).putnew (by omega) _
      have c5c : Cur H5 b (A + 400 + 2) := by rw [← hH5]; exact (c3.ext x4).put (by omega) _
      have hl5' : H.size < H5.size := by have := AH.cells_lt k5; omega
      have hf := fin H5 (.sl c5 0 16) o _ b5 (c5c.le (by omega)) k5 (by have := r5'.nats; rwa [hl5] at this) (by simp [hl5]) (.inr (by show H.size + 1 ≤ c5; omega))
      (simp (disch := first | exact dsch | kernel_rfl) only [go_sem, ↓reduceIte, Nat.reduceEqDiff, Nat.reduceLT, Nat.reduceAdd, reduceCtorEq, Int.reduceToNat, Try.ntmps181, Try.results181, sx, ld_graph bx5, st_graph (o := o) k5 (show AV.one (.sl c5 0 16) = true from rfl)] <;> repeat' ((first | refine AK.drawT (by kernel_rfl) ?_ | ((first | refine ABK_mk ?_ ?_ | refine AGK_mk ?_ ?_) <;> intro hb <;> (try simp only [decide_eq_true_eq, decide_eq_false_iff_not, Bool.not_eq_true', Bool.not_eq_false', Bool.not_not] at hb) <;> (try (exfalso; omega)) <;> (try subst hb) <;> try simp only [hb, decide_true, decide_false])) <;> try simp (disch := first | exact dsch | kernel_rfl) only [go_sem, ↓reduceIte, Nat.reduceEqDiff, Nat.reduceLT, Nat.reduceAdd, reduceCtorEq, Int.reduceToNat, Try.ntmps181, Try.results181, sx, ld_graph bx5, st_graph (o := o) k5 (show AV.one (.sl c5 0 16) = true from rfl)]))
      exact hf
  · have d2 : decide ((x : Int) = 2) = false := by simp; omega
    have d3 : decide ((x : Int) = 3) = false := by simp; omega
    have hf := fin H3 (.sl c 0 n) o (zs l) b13 (c3.le (by omega)) k3 (by have := r3.nats; rwa [hln] at this) (by simp; omega) (.inr (by show H.size + 1 ≤ c; omega))
    (simp (disch := first | exact dsch | kernel_rfl) only [go_sem, ↓reduceIte, Nat.reduceEqDiff, Nat.reduceLT, Nat.reduceAdd, reduceCtorEq, Int.reduceToNat, Try.ntmps181, Try.results181, d0, d1, d2, d3, ld_graph bx3, st_graph (o := o) k3 (show AV.one (.sl c 0 n) = true from rfl)] <;> repeat' ((first | refine AK.drawT (by kernel_rfl) ?_ | ((first | refine ABK_mk ?_ ?_ | refine AGK_mk ?_ ?_) <;> intro hb <;> (try simp only [decide_eq_true_eq, decide_eq_false_iff_not, Bool.not_eq_true', Bool.not_eq_false', Bool.not_not] at hb) <;> (try (exfalso; omega)) <;> (try subst hb) <;> try simp only [hb, decide_true, decide_false])) <;> try simp (disch := first | exact dsch | kernel_rfl) only [go_sem, ↓reduceIte, Nat.reduceEqDiff, Nat.reduceLT, Nat.reduceAdd, reduceCtorEq, Int.reduceToNat, Try.ntmps181, Try.results181, d0, d1, d2, d3, ld_graph bx3, st_graph (o := o) k3 (show AV.one (.sl c 0 n) = true from rfl)]))
    exact hf

end Go.Proofs.Ytopbfmhajbjepaa
