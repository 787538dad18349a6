/- Contracts: the least polynomial that takes a set to 0, of the reference. -/
import Derived.Test.YtopbfmhajbjepaaC14
namespace Go.Proofs.Ytopbfmhajbjepaa
open Go
set_option linter.unusedSimpArgs false
set_option linter.unusedVariables false

theorem OwnC.base {H0 H1 H : AH} {v : AV} {cs : List AV} (h : OwnC H1 H v cs) (l : H0.size ≤ H1.size) : OwnC H0 H v cs := h.imp id fun ⟨b, h1, h2, h3⟩ => ⟨b, h1, by omega, h3⟩
theorem QX_new {Hc A B : AH} (x : Ext Hc A) (y : Ext Hc B) : QX (fun b => Hc.size ≤ b) A B := fun b hb hW => by
  have : b < Hc.size := by omega
  rw [y.quiet b this, x.quiet b this]
theorem SliceAt.out {H : AH} {v : AV} {e : Nat} {cs : List AV} (h : SliceAt H v e cs) : v = .nilsl ∨ ¬ (H.size ≤ v.sb) := h.imp (·.1) fun ⟨b, o, n, ro, xs, h1, h2, _⟩ => by subst h1; have := AH.cells_lt h2; simp only [AV.sb]; omega
section
variable {P : Program} {prims : PrimT} {n : Nat} {ks : List KI} {tm : Tm} {H : AH} {Q : AExit → Tm → AH → Prop} {ops : Array Oper} {tot : List Nat} {i : Nat} {rest : List Oper}
/-- A part of a slice is taken where writers are at work. -/
theorem ASK_slice {d : Option Tmp} {t : TypeId} {x : Operand} {lo hi : Option Operand} {W : Nat → Prop} {ind : List Nat} {v : AV} (hb : ev tm x = .nilsl ∨ ¬ W (ev tm x).sb) (h : aslice TA H t (ev tm x) (lo.map (ev tm)) (hi.map (ev tm)) = some v)
    (hk : VK P TA prims n ops (.yes W ind) tot (i + 1) rest ks (tm.put d v) H Q) : ASK P TA prims n ops (.yes W ind) tot i d (.slice t x lo hi none) rest ks tm H Q (some (v, H)) := by
  refine ASK_ind (fun _ _ => rfl) (fun b h1 h2 => by omega) ?_ hk
  show (aslice TA (H.drop W) t (ev tm x) (lo.map (ev tm)) (hi.map (ev tm))).map (fun v => (v, H.drop W)) = _
  rw [aslice_drop hb, h]; rfl
/-- What holds between a block and the next code. -/
theorem AK.midb {T : TT} {c y : Code} {id : Nat} (ds : List Nat) (hds : wr ds c = true) (M : Tm → AH → Prop) (h : ∀ K : Tm → AH → Prop, (∀ tm2 H2, M tm2 H2 → K tm2 H2) → AK P T prims n c (.blk id :: .body K :: ks) tm H Q)
    (hy : ∀ tm' H', (∀ t, ds.elem t = false → tm' t = tm t) → M tm' H' → AK P T prims n y ks tm' H' Q) : AK P T prims n c (.blk id :: .code y :: ks) tm H Q :=
  AK_block.1 (AK.mid (c := .block id c) ds hds M (fun K hK => AK_block.2 (h K hK)) hy)
end

abbrev fsts (ps : List (Nat × Nat)) : List Nat := ps.map Prod.fst
abbrev snds (ps : List (Nat × Nat)) : List Nat := ps.map Prod.snd
theorem fsts_getD {ps : List (Nat × Nat)} {j : Nat} (h : j < ps.length) : (fsts ps).getD j 0 = (ps[j]).1 := by simp [List.getD, h]
theorem snds_getD {ps : List (Nat × Nat)} {j : Nat} (h : j < ps.length) : (snds ps).getD j 0 = (ps[j]).2 := by simp [List.getD, h]
theorem zs_append (a b : List Nat) : zs (a ++ b) = zs a ++ zs b := by simp [zs]
theorem zs_cons (x : Nat) (l : List Nat) : zs (x :: l) = (x : Int) :: zs l := rfl
theorem zs_take (a : List Nat) (i : Nat) : (zs a).take i = zs (a.take i) := by simp [zs, List.map_take]
theorem zs_drop (a : List Nat) (i : Nat) : (zs a).drop i = zs (a.drop i) := by simp [zs, List.map_drop]

set_option maxRecDepth 10000 in
theorem prLeast_ok (m : List Nat) (s : Nat) (v : AV) (H : AH) (hv : NatsAt H v m) (hm : MapOK m) (hs : s < 2 ^ m.length) : E 127 [v, .int .i64 s] H (Is (.int .i64 (lp m s : Nat)) H) := by
  have hn16 := hm.1
  have hp16 : 2 ^ m.length ≤ 65536 := Nat.pow_le_pow_right (n := 2) (by omega) hm.1.2
  have hm63 : ∀ i < m.length, m.getD i 0 < 9223372036854775808 := fun i _ => Nat.lt_trans (hm.lt i) (by omega)
  have hpw : ∀ k, pw m s k < 2 ^ m.length := pw_lt hm.2 hs
  have hpe : ∀ p, pe m s p < 2 ^ m.length := pe_lt hm.2 hs
  refine Ev.enterK (fn := Try.f127) rfl Try.func127 rfl (by kernel_rfl) (by simp [Try.ntmps127]) ?_
  (simp (disch := first | exact dsch | kernel_rfl) only [go_sem, ↓reduceIte, Nat.reduceEqDiff, Nat.reduceLT, Nat.reduceAdd, reduceCtorEq, Int.reduceToNat, Try.ntmps127, Try.results127] <;> repeat' ((first | (refine AOK_is (by first | exact grIn_ok _ _ (by omega) _ | exact grIn_okz _ _ (by omega) (by omega) (by omega) _) ?_; intro Hc hxc) | (refine AOK_is (by exact soTop_ok _ (by first | assumption | omega) _) ?_; intro Hc hxc) | refine AK.drawT (by kernel_rfl) ?_ | ((first | refine ABK_mk ?_ ?_ | refine AGK_mk ?_ ?_) <;> intro hb <;> (try simp only [decide_eq_true_eq, decide_eq_false_iff_not, Bool.not_eq_true', Bool.not_eq_false', Bool.not_not] at hb) <;> (try (exfalso; omega)) <;> (try subst hb) <;> try simp only [hb, decide_true, decide_false])) <;> try simp (disch := first | exact dsch | kernel_rfl) only [go_sem, ↓reduceIte, Nat.reduceEqDiff, Nat.reduceLT, Nat.reduceAdd, reduceCtorEq, Int.reduceToNat, Try.ntmps127, Try.results127]))
  refine (AK.countx 7 [1, 4, 5, 6, 7, 8, 9, 10, 11, 12, 13, 14, 15, 16, 17, 18, 19, 20, 21, 22, 23, 24, 25, 26, 27, 28, 29, 30, 31, 32, 33, 34, 35, 36, 37, 38, 39, 40, 41, 42, 43, 44, 45, 46, 47, 48, 49, 50, 51, 52, 53, 54, 55, 56, 57, 58, 59, 60, 61, 62, 63, 64, 65, 66, 67, 68, 69, 70, 71, 72, 73, 74, 75, 76, 77, 78, 79, 80, 81, 82, 83, 84, 85, 86, 87, 88, 89, 90] (by kernel_rfl) 0 (m.length + 1) (fun k tm H' => ∃ (ps : List (Nat × Nat)) (v1 v2 : AV), tm 5 = v1 ∧ tm 6 = v2 ∧ tm 1 = .int .i64 (pw m s k : Nat) ∧ El m s k ps ∧ ps.Pairwise (fun a b => a.1.log2 < b.1.log2) ∧ OwnC H H' v1 (ints (zs (fsts ps))) ∧ OwnC H H' v2 (ints (zs (snds ps))))
    (by rfl) (by omega) ⟨[], .nilsl, .nilsl, by simp [go_sem], by simp [go_sem], by simp [go_sem, pw], El.start m s, by simp, OwnC.nil, OwnC.nil⟩ ?_)
  rintro k tm H' K h1 h2 fr hq hx ⟨ps, v1, v2, h5, h6, hs1, hE, hso, ho1, ho2⟩ hK
  have hkn : k ≤ m.length := hE.le hm.2 hs
  have hlen := hE.len
  have n1 : NatsAt H' v1 (fsts ps) := ho1.slice
  have n2 : NatsAt H' v2 (snds ps) := ho2.slice
  have l1 : (fsts ps).length = k := by simp [hlen]
  have l2 : (snds ps).length = k := by simp [hlen]
  have hpwk := hpw k
  have h2k : 2 ^ k ≤ 65536 := Nat.pow_le_pow_right (n := 2) (by omega) (show k ≤ 16 by omega)
  (simp (disch := first | exact dsch | kernel_rfl) only [go_sem, ↓reduceIte, Nat.reduceEqDiff, Nat.reduceLT, Nat.reduceAdd, reduceCtorEq, Int.reduceToNat, Try.ntmps127, Try.results127, fr, hq, h5, h6, hs1, hv.len, n1.len, n2.len, l1, Int.ofNat_le, hkn] <;> repeat' ((first | (refine AOK_is (by first | exact grIn_ok _ _ (by omega) _ | exact grIn_okz _ _ (by omega) (by omega) (by omega) _) ?_; intro Hc hxc) | (refine AOK_is (by exact soTop_ok _ (by first | assumption | omega) _) ?_; intro Hc hxc) | refine AK.drawT (by kernel_rfl) ?_ | ((first | refine ABK_mk ?_ ?_ | refine AGK_mk ?_ ?_) <;> intro hb <;> (try simp only [decide_eq_true_eq, decide_eq_false_iff_not, Bool.not_eq_true', Bool.not_eq_false', Bool.not_not] at hb) <;> (try (exfalso; omega)) <;> (try subst hb) <;> try simp only [hb, decide_true, decide_false])) <;> try simp (disch := first | exact dsch | kernel_rfl) only [go_sem, ↓reduceIte, Nat.reduceEqDiff, Nat.reduceLT, Nat.reduceAdd, reduceCtorEq, Int.reduceToNat, Try.ntmps127, Try.results127, fr, hq, h5, h6, hs1, hv.len, n1.len, n2.len, l1, Int.ofNat_le, hkn]))
  refine (AK.whilex [8, 9, 10, 24, 25, 26, 27, 28, 29, 30, 31, 32, 33, 34, 35, 36, 37, 38, 39, 40, 41, 42, 43, 44, 45, 46] (by kernel_rfl) (fun j tm H' => ∃ now p : Nat, tm 10 = .int .i64 ((j : Int) - 1) ∧ tm 8 = .int .i64 now ∧ tm 9 = .int .i64 p ∧ now = pe m s p ∧ Deg p k ∧ j ≤ k ∧ ∀ i, j ≤ i → i < k → now.testBit ((fsts ps).getD i 0).log2 = false) k
    ⟨pw m s k, 2 ^ k, by simp [go_sem], by simp [go_sem], by simp [go_sem], (pe_pow m s k).symm, ⟨Nat.testBit_two_pow_self, Nat.pow_lt_pow_right (by omega) (by omega)⟩, Nat.le_refl _, fun i h1 h2 => by omega⟩ ?_)
  rintro j tm2 H2 K2 fr2 hx2 ⟨now, p, g10, g8, g9, hnow, hdeg, hjk, hbits⟩ hK2
  have hnow16 : now < 65536 := by have := hpe p; rw [← hnow] at this; omega
  have hp17 : p < 131072 := Nat.lt_of_lt_of_le hdeg.lt (by rw [Nat.pow_succ]; omega)
  rcases Nat.eq_zero_or_pos j with hj | hj
  · subst hj
    have htops : ∀ x ∈ ps, now ≠ 0 → x.1.log2 ≠ now.log2 := by
      intro x hx h0 e
      obtain ⟨i, hi, rfl⟩ := List.getElem_of_mem hx
      have := hbits i (by omega) (by omega)
      rw [fsts_getD hi, e, Nat.testBit_log2 h0] at this
      cases this
    by_cases hz : now = 0
    · have hmin := hE.done hdeg (by rw [← hnow, hz])
      (simp (disch := first | exact dsch | kernel_rfl) only [go_sem, ↓reduceIte, Nat.reduceEqDiff, Nat.reduceLT, Nat.reduceAdd, reduceCtorEq, Int.reduceToNat, Try.ntmps127, Try.results127, fr2, g10, g8, g9, hz] <;> repeat' ((first | (refine AOK_is (by first | exact grIn_ok _ _ (by omega) _ | exact grIn_okz _ _ (by omega) (by omega) (by omega) _) ?_; intro Hc hxc) | (refine AOK_is (by exact soTop_ok _ (by first | assumption | omega) _) ?_; intro Hc hxc) | refine AK.drawT (by kernel_rfl) ?_ | ((first | refine ABK_mk ?_ ?_ | refine AGK_mk ?_ ?_) <;> intro hb <;> (try simp only [decide_eq_true_eq, decide_eq_false_iff_not, Bool.not_eq_true', Bool.not_eq_false', Bool.not_not] at hb) <;> (try (exfalso; omega)) <;> (try subst hb) <;> try simp only [hb, decide_true, decide_false])) <;> try simp (disch := first | exact dsch | kernel_rfl) only [go_sem, ↓reduceIte, Nat.reduceEqDiff, Nat.reduceLT, Nat.reduceAdd, reduceCtorEq, Int.reduceToNat, Try.ntmps127, Try.results127, fr2, g10, g8, g9, hz]))
      exact Is.mk (by rw [lp_eq hmin]) (by exact xt)
    · have htn := tp_deg (Deg.of hz)
      (simp (disch := first | exact dsch | kernel_rfl) only [go_sem, ↓reduceIte, Nat.reduceEqDiff, Nat.reduceLT, Nat.reduceAdd, reduceCtorEq, Int.reduceToNat, Try.ntmps127, Try.results127, fr2, g10, g8, g9, Int.natCast_eq_zero, hz] <;> repeat' ((first | (refine AOK_is (by first | exact grIn_ok _ _ (by omega) _ | exact grIn_okz _ _ (by omega) (by omega) (by omega) _) ?_; intro Hc hxc) | (refine AOK_is (by exact soTop_ok _ (by first | assumption | omega) _) ?_; intro Hc hxc) | refine AK.drawT (by kernel_rfl) ?_ | ((first | refine ABK_mk ?_ ?_ | refine AGK_mk ?_ ?_) <;> intro hb <;> (try simp only [decide_eq_true_eq, decide_eq_false_iff_not, Bool.not_eq_true', Bool.not_eq_false', Bool.not_not] at hb) <;> (try (exfalso; omega)) <;> (try subst hb) <;> try simp only [hb, decide_true, decide_false])) <;> try simp (disch := first | exact dsch | kernel_rfl) only [go_sem, ↓reduceIte, Nat.reduceEqDiff, Nat.reduceLT, Nat.reduceAdd, reduceCtorEq, Int.reduceToNat, Try.ntmps127, Try.results127, fr2, g10, g8, g9, Int.natCast_eq_zero, hz]))
      refine (AK.midb [11, 50, 51, 52, 53, 54, 55, 56, 57, 58, 59, 60, 61, 62, 63, 64, 65] (by kernel_rfl) (fun tm' H3 => ∃ a : Nat, a ≤ k ∧ tm' 11 = .int .i64 a ∧ Ext H2 H3 ∧ (∀ i < a, ((fsts ps).getD i 0).log2 < now.log2) ∧ (a < k → now.log2 ≤ ((fsts ps).getD a 0).log2)) ?_ ?_)
      · intro K3 hK3
        refine (AK.countx 11 [11, 50, 51, 52, 53, 54, 55, 56, 57, 58, 59, 60, 61, 62, 63, 64, 65] (by kernel_rfl) 0 k (fun a tm H' => ∀ i < a, ((fsts ps).getD i 0).log2 < now.log2) (by rfl) (by omega) (fun i h => by omega) ?_)
        rintro a tm3 H3 K4 a1 a2 fr3 hq3 hx4 hlow hK4
        by_cases hak : a < k
        · have hal : a < ps.length := by omega
          have e1 := fsts_getD hal
          have hmem := List.getElem_mem hal
          generalize hxa : ps[a] = x at *
          have hv1 := (hE.val x hmem).1
          have hne : x.1 ≠ 0 := hE.ech.ne _ (List.mem_map.2 ⟨x, hmem, rfl⟩)
          have hx16 : x.1 < 65536 := by have := hpe x.2; rw [← hv1] at this; omega
          have htx := tp_deg (Deg.of hne)
          have hak' : (a : Int) < (k : Int) := by omega
          (simp (disch := first | exact dsch | kernel_rfl) only [go_sem, ↓reduceIte, Nat.reduceEqDiff, Nat.reduceLT, Nat.reduceAdd, reduceCtorEq, Int.reduceToNat, Try.ntmps127, Try.results127, fr3, fr2, fr, hq3, g8, g9, h5, h6, n1.len, n1.ix, n1.ld, l1, e1, htx, htn, hak', Int.ofNat_lt] <;> repeat' ((first | (refine AOK_is (by first | exact grIn_ok _ _ (by omega) _ | exact grIn_okz _ _ (by omega) (by omega) (by omega) _) ?_; intro Hc hxc) | (refine AOK_is (by exact soTop_ok _ (by first | assumption | omega) _) ?_; intro Hc hxc) | refine AK.drawT (by kernel_rfl) ?_ | ((first | refine ABK_mk ?_ ?_ | refine AGK_mk ?_ ?_) <;> intro hb <;> (try simp only [decide_eq_true_eq, decide_eq_false_iff_not, Bool.not_eq_true', Bool.not_eq_false', Bool.not_not] at hb) <;> (try (exfalso; omega)) <;> (try subst hb) <;> try simp only [hb, decide_true, decide_false])) <;> try simp (disch := first | exact dsch | kernel_rfl) only [go_sem, ↓reduceIte, Nat.reduceEqDiff, Nat.reduceLT, Nat.reduceAdd, reduceCtorEq, Int.reduceToNat, Try.ntmps127, Try.results127, fr3, fr2, fr, hq3, g8, g9, h5, h6, n1.len, n1.ix, n1.ld, l1, e1, htx, htn, hak', Int.ofNat_lt]))
          · refine hK4 _ _ (by omega) (by rfl) (by exact xt) fun i hi => ?_
            by_cases e : i = a
            · subst e; rw [e1]; exact hb
            · exact hlow i (by omega)
          · exact hK3 _ _ ⟨a, a2, by simp [go_sem, hq3], by exact xt, hlow, fun _ => by rw [e1]; omega⟩
        · have ea : a = k := by omega
          subst ea
          have hak' : ¬ (a : Int) < (a : Int) := by omega
          (simp (disch := first | exact dsch | kernel_rfl) only [go_sem, ↓reduceIte, Nat.reduceEqDiff, Nat.reduceLT, Nat.reduceAdd, reduceCtorEq, Int.reduceToNat, Try.ntmps127, Try.results127, fr3, fr2, fr, hq3, h5, n1.len, l1, hak'] <;> repeat' ((first | (refine AOK_is (by first | exact grIn_ok _ _ (by omega) _ | exact grIn_okz _ _ (by omega) (by omega) (by omega) _) ?_; intro Hc hxc) | (refine AOK_is (by exact soTop_ok _ (by first | assumption | omega) _) ?_; intro Hc hxc) | refine AK.drawT (by kernel_rfl) ?_ | ((first | refine ABK_mk ?_ ?_ | refine AGK_mk ?_ ?_) <;> intro hb <;> (try simp only [decide_eq_true_eq, decide_eq_false_iff_not, Bool.not_eq_true', Bool.not_eq_false', Bool.not_not] at hb) <;> (try (exfalso; omega)) <;> (try subst hb) <;> try simp only [hb, decide_true, decide_false])) <;> try simp (disch := first | exact dsch | kernel_rfl) only [go_sem, ↓reduceIte, Nat.reduceEqDiff, Nat.reduceLT, Nat.reduceAdd, reduceCtorEq, Int.reduceToNat, Try.ntmps127, Try.results127, fr3, fr2, fr, hq3, h5, n1.len, l1, hak']))
          exact hK3 _ _ ⟨a, a2, by simp [go_sem, hq3], by exact xt, hlow, fun h => by omega⟩
      · rintro tm3 H3 fr3 ⟨a, ha, g11, hx4, hlow, hhigh⟩
        have x3 : Ext H' H3 := hx2.trans hx4
        have hx03 : Ext H H3 := hx.trans x3
        have al1 : (a : Int) ≤ ((zs (fsts ps)).length : Int) := by rw [zs_length, l1]; omega
        have al2 : (a : Int) ≤ ((zs (snds ps)).length : Int) := by rw [zs_length, l2]; omega
        have m1 := n1.ext x3
        have m2 := n2.ext x3
        have hk40 : k < 1099511627776 := by omega
        have q1 : (zs (fsts ps)).length = k := by rw [zs_length, l1]
        have q2 : (zs (snds ps)).length = k := by rw [zs_length, l2]
        -- the images
        refine AK_seq.2 (AK.drawW (fun b => H3.size ≤ b) [9] (by kernel_rfl) ?_)
        simp (disch := first | exact dsch | kernel_rfl) only [go_sem, ↓reduceIte, Nat.reduceEqDiff, Nat.reduceLT, Nat.reduceAdd, reduceCtorEq, Int.reduceToNat, Try.ntmps127, Try.results127, fr3, fr2, fr, g11, h5, h6, IntsAt.pre_eq m1]
        refine AOK_gives (l1Own_ok _ _ _ (IntsAt.pre m1 (i := a) (by omega)) (by rw [List.length_take]; omega)) ?_
        intro u Ha xa hu
        have hw := hu.next (y := .int .i64 (now : Nat)) (Ext.refl Ha) xa
        rw [show ints (List.take a (zs (fsts ps))) ++ [AV.int .i64 ((now : Nat) : Int)] = ints (List.take a (zs (fsts ps)) ++ [((now : Nat) : Int)]) by rw [ints_append]; rfl] at hw
        have xb : Ext H3 ((Ha.push (.cells 1 false [.int .i64 (now : Nat)])).sans u) := Ext.sans hu (xa.trans (Ext.push _ _))
        obtain ⟨r, Hb, eb, ob, wb, yb⟩ := OwnC.apps_ints hw (Ext.refl _) (xb.trans (Ext.push _ _)) (SliceAt.ext (IntsAt.post m1 (i := a) (by omega)) (xb.trans (Ext.push _ _))) (by simp only [List.length_append, List.length_take, List.length_drop, q1, List.length_cons, List.length_nil]; omega)
        rw [List.append_assoc] at ob
        simp only [ints_append, ints_cons, ints_nil] at eb
        simp (disch := first | exact dsch | kernel_rfl) only [go_sem, ↓reduceIte, Nat.reduceEqDiff, Nat.reduceLT, Nat.reduceAdd, reduceCtorEq, Int.reduceToNat, Try.ntmps127, Try.results127, fr3, fr2, fr, g11, g8, h5, h6, hu.app_ints (ints_one _) (show _ < 1099511627776 by rw [ints_length, List.length_take]; omega)]
        refine (ASK_w (by rfl) (by kernel_rfl) (QX_new (Hc := H3) (by exact xt) (xb.trans (Ext.push _ _)))).2 ?_
        simp (disch := first | exact dsch | kernel_rfl) only [go_sem, ↓reduceIte, Nat.reduceEqDiff, Nat.reduceLT, Nat.reduceAdd, reduceCtorEq, Int.reduceToNat, Try.ntmps127, Try.results127, fr3, fr2, fr, g11, g8, h5, h6, IntsAt.post_eq (SliceAt.ext m1 (xb.trans (Ext.push _ _)))]
        refine ASK_slice ?_ ?_ ?_
        · simp (disch := first | exact dsch | kernel_rfl) only [go_sem, ↓reduceIte, Nat.reduceEqDiff, Nat.reduceLT, Nat.reduceAdd, reduceCtorEq, Int.reduceToNat, Try.ntmps127, Try.results127, fr3, fr2, fr, g11, g8, h5, h6]
          exact SliceAt.out m1
        · simp (disch := first | exact dsch | kernel_rfl) only [go_sem, ↓reduceIte, Nat.reduceEqDiff, Nat.reduceLT, Nat.reduceAdd, reduceCtorEq, Int.reduceToNat, Try.ntmps127, Try.results127, fr3, fr2, fr, g11, g8, h5, h6, IntsAt.post_eq (SliceAt.ext m1 (xb.trans (Ext.push _ _)))]
        simp (disch := first | exact dsch | kernel_rfl) only [go_sem, ↓reduceIte, Nat.reduceEqDiff, Nat.reduceLT, Nat.reduceAdd, reduceCtorEq, Int.reduceToNat, Try.ntmps127, Try.results127, fr3, fr2, fr, g11, g8, h5, h6, eb]
        refine (ASK_w (by rfl) (by kernel_rfl) (QX_new (Hc := H3) (xb.trans (Ext.push _ _)) yb)).2 ?_
        simp only [VK_plain, VK_nil, AX_ncode]
        refine ⟨by rfl, ?_⟩
        simp (disch := first | exact dsch | kernel_rfl) only [go_sem, ↓reduceIte, Nat.reduceEqDiff, Nat.reduceLT, Nat.reduceAdd, reduceCtorEq, Int.reduceToNat, Try.ntmps127, Try.results127, fr3, fr2, fr, g11, g8, h5, h6, hs1]
        have m2 := SliceAt.ext m2 yb
        -- the powers
        refine AK.drawW (fun b => Hb.size ≤ b) [9] (by kernel_rfl) ?_
        simp (disch := first | exact dsch | kernel_rfl) only [go_sem, ↓reduceIte, Nat.reduceEqDiff, Nat.reduceLT, Nat.reduceAdd, reduceCtorEq, Int.reduceToNat, Try.ntmps127, Try.results127, fr3, fr2, fr, g11, h5, h6, IntsAt.pre_eq m2]
        refine AOK_gives (l1Own_ok _ _ _ (IntsAt.pre m2 (i := a) (by omega)) (by rw [List.length_take]; omega)) ?_
        intro u2 Ha2 xa2 hu2
        have hw2 := hu2.next (y := .int .i64 (p : Nat)) (Ext.refl Ha2) xa2
        rw [show ints (List.take a (zs (snds ps))) ++ [AV.int .i64 ((p : Nat) : Int)] = ints (List.take a (zs (snds ps)) ++ [((p : Nat) : Int)]) by rw [ints_append]; rfl] at hw2
        have xb2 : Ext Hb ((Ha2.push (.cells 1 false [.int .i64 (p : Nat)])).sans u2) := Ext.sans hu2 (xa2.trans (Ext.push _ _))
        obtain ⟨r2, Hb2, eb2, ob2, wb2, yb2⟩ := OwnC.apps_ints hw2 (Ext.refl _) (xb2.trans (Ext.push _ _)) (SliceAt.ext (IntsAt.post m2 (i := a) (by omega)) (xb2.trans (Ext.push _ _))) (by simp only [List.length_append, List.length_take, List.length_drop, q2, List.length_cons, List.length_nil]; omega)
        rw [List.append_assoc] at ob2
        simp only [ints_append, ints_cons, ints_nil] at eb2
        simp (disch := first | exact dsch | kernel_rfl) only [go_sem, ↓reduceIte, Nat.reduceEqDiff, Nat.reduceLT, Nat.reduceAdd, reduceCtorEq, Int.reduceToNat, Try.ntmps127, Try.results127, fr3, fr2, fr, g11, g9, h5, h6, hu2.app_ints (ints_one _) (show _ < 1099511627776 by rw [ints_length, List.length_take]; omega)]
        refine (ASK_w (by rfl) (by kernel_rfl) (QX_new (Hc := Hb) (by exact xt) (xb2.trans (Ext.push _ _)))).2 ?_
        simp (disch := first | exact dsch | kernel_rfl) only [go_sem, ↓reduceIte, Nat.reduceEqDiff, Nat.reduceLT, Nat.reduceAdd, reduceCtorEq, Int.reduceToNat, Try.ntmps127, Try.results127, fr3, fr2, fr, g11, g9, h5, h6, IntsAt.post_eq (SliceAt.ext m2 (xb2.trans (Ext.push _ _)))]
        refine ASK_slice ?_ ?_ ?_
        · simp (disch := first | exact dsch | kernel_rfl) only [go_sem, ↓reduceIte, Nat.reduceEqDiff, Nat.reduceLT, Nat.reduceAdd, reduceCtorEq, Int.reduceToNat, Try.ntmps127, Try.results127, fr3, fr2, fr, g11, g9, h5, h6]
          exact SliceAt.out m2
        · simp (disch := first | exact dsch | kernel_rfl) only [go_sem, ↓reduceIte, Nat.reduceEqDiff, Nat.reduceLT, Nat.reduceAdd, reduceCtorEq, Int.reduceToNat, Try.ntmps127, Try.results127, fr3, fr2, fr, g11, g9, h5, h6, IntsAt.post_eq (SliceAt.ext m2 (xb2.trans (Ext.push _ _)))]
        simp (disch := first | exact dsch | kernel_rfl) only [go_sem, ↓reduceIte, Nat.reduceEqDiff, Nat.reduceLT, Nat.reduceAdd, reduceCtorEq, Int.reduceToNat, Try.ntmps127, Try.results127, fr3, fr2, fr, g11, g9, h5, h6, eb2]
        refine (ASK_w (by rfl) (by kernel_rfl) (QX_new (Hc := Hb) (xb2.trans (Ext.push _ _)) yb2)).2 ?_
        simp only [VK_plain, VK_nil, AX_ncode]
        refine ⟨by rfl, ?_⟩
        simp (disch := first | exact dsch | kernel_rfl) only [go_sem, ↓reduceIte, Nat.reduceEqDiff, Nat.reduceLT, Nat.reduceAdd, reduceCtorEq, Int.reduceToNat, Try.ntmps127, Try.results127, fr3, fr2, fr, g11, g9, h5, h6, hs1]
        have x9 : Ext H Hb2 := (hx03.trans yb).trans yb2
        refine AOK_is (prApply_ok m (pw m s k) v _ (SliceAt.ext hv x9) (by omega) hm63 (by omega)) ?_
        intro Hd xd
        simp (disch := first | exact dsch | kernel_rfl) only [go_sem, ↓reduceIte, Nat.reduceEqDiff, Nat.reduceLT, Nat.reduceAdd, reduceCtorEq, Int.reduceToNat, Try.ntmps127, Try.results127, fr3, fr2, fr, hq]
        have xs1 : ∀ x ∈ ps.take a, x.1.log2 < now.log2 := by
          intro x hx
          obtain ⟨i, hi, rfl⟩ := List.getElem_of_mem hx
          have hi' : i < a ∧ i < ps.length := by simpa [List.length_take, Nat.lt_min] using hi
          have := hlow i hi'.1
          rw [fsts_getD hi'.2] at this
          simpa using this
        have xs2 : ∀ x ∈ ps.drop a, now.log2 < x.1.log2 := by
          intro x hx
          have hne := htops x (List.mem_of_mem_drop hx) hz
          obtain ⟨i, hi, rfl⟩ := List.getElem_of_mem hx
          rw [List.length_drop] at hi
          rw [List.getElem_drop] at hne ⊢
          have hak : a < k := by omega
          have g := hhigh hak
          rw [fsts_getD (by omega)] at g
          by_cases e : i = 0
          · subst e; simp only [Nat.add_zero] at hne ⊢; omega
          · have := List.pairwise_iff_getElem.1 hso a (a + i) (by omega) (by omega) (by omega)
            omega
        have ez : ps.take a ++ ps.drop a = ps := List.take_append_drop a ps
        refine hK _ _ (by omega) (by rfl) (by exact xt) ⟨ps.take a ++ (now, p) :: ps.drop a, r, r2, by simp [go_sem], by simp [go_sem], by simp [go_sem, pw], El.next (by rw [ez]; exact hE) hdeg hnow hz (fun x hx => htops x (by rw [← ez]; exact hx) hz), ?_, ?_, ?_⟩
        · refine List.pairwise_append.2 ⟨hso.sublist (List.take_sublist _ _), List.pairwise_cons.2 ⟨fun x hx => xs2 x hx, hso.sublist (List.drop_sublist _ _)⟩, ?_⟩
          intro x hx y hy
          have h1 := xs1 x hx
          rcases List.mem_cons.1 hy with e | e
          · subst e; exact h1
          · have := xs2 y e; omega
        · have := (ob.base hx03.size).ext (yb2.trans xd)
          simpa [fsts, zs_append, zs_cons, zs_take, zs_drop, List.map_take, List.map_drop] using this
        · have := (ob2.base (hx03.trans yb).size).ext xd
          simpa [snds, zs_append, zs_cons, zs_take, zs_drop, List.map_take, List.map_drop] using this
  · obtain ⟨j, rfl⟩ : ∃ j', j = j' + 1 := ⟨j - 1, by omega⟩
    have hjl : j < ps.length := by omega
    have e1 := fsts_getD hjl
    have e2 := snds_getD hjl
    have hmem := List.getElem_mem hjl
    generalize hxj : ps[j] = x at *
    obtain ⟨hv1, hv2⟩ := hE.val x hmem
    have hne : x.1 ≠ 0 := hE.ech.ne _ (List.mem_map.2 ⟨x, hmem, rfl⟩)
    have hx16 : x.1 < 65536 := by have := hpe x.2; rw [← hv1] at this; omega
    have hl16 : x.1.log2 < 16 := (Nat.log2_lt hne).2 (by simpa using hx16)
    have htx := tp_deg (Deg.of hne)
    have hsub : ((j + 1 : Nat) : Int) - 1 = (j : Int) := by omega
    rw [hsub] at g10
    (simp (disch := first | exact dsch | kernel_rfl) only [go_sem, ↓reduceIte, Nat.reduceEqDiff, Nat.reduceLT, Nat.reduceAdd, reduceCtorEq, Int.reduceToNat, Try.ntmps127, Try.results127, fr2, fr, g10, g8, g9, h5, h6, n1.ix, n1.ld, n2.ix, n2.ld, e1, e2, htx] <;> repeat' ((first | (refine AOK_is (by first | exact grIn_ok _ _ (by omega) _ | exact grIn_okz _ _ (by omega) (by omega) (by omega) _) ?_; intro Hc hxc) | (refine AOK_is (by exact soTop_ok _ (by first | assumption | omega) _) ?_; intro Hc hxc) | refine AK.drawT (by kernel_rfl) ?_ | ((first | refine ABK_mk ?_ ?_ | refine AGK_mk ?_ ?_) <;> intro hb <;> (try simp only [decide_eq_true_eq, decide_eq_false_iff_not, Bool.not_eq_true', Bool.not_eq_false', Bool.not_not] at hb) <;> (try (exfalso; omega)) <;> (try subst hb) <;> try simp only [hb, decide_true, decide_false])) <;> try simp (disch := first | exact dsch | kernel_rfl) only [go_sem, ↓reduceIte, Nat.reduceEqDiff, Nat.reduceLT, Nat.reduceAdd, reduceCtorEq, Int.reduceToNat, Try.ntmps127, Try.results127, fr2, fr, g10, g8, g9, h5, h6, n1.ix, n1.ld, n2.ix, n2.ld, e1, e2, htx]))
    · refine hK2 j _ _ (by omega) (by exact xt) ⟨now ^^^ x.1, p ^^^ x.2, by simp [go_sem], by simp [go_sem], by simp [go_sem], ?_, hdeg.xor hv2, by omega, ?_⟩
      · rw [pe_addP, ← hnow, ← hv1]
      · intro i hi1 hi2
        have hil : i < ps.length := by omega
        rw [Nat.testBit_xor]
        by_cases e : i = j
        · subst e; rw [e1, hb, Nat.testBit_log2 hne]; rfl
        · have hlt := List.pairwise_iff_getElem.1 hso j i hjl hil (by omega)
          rw [hxj] at hlt
          rw [hbits i (by omega) hi2, fsts_getD hil, Nat.testBit_lt_two_pow (Nat.lt_of_lt_of_le (lt_log2 x.1) (Nat.pow_le_pow_right (by omega) hlt))]; rfl
    · refine hK2 j _ _ (by omega) (by exact xt) ⟨now, p, by simp [go_sem], by simp [go_sem, g8], by simp [go_sem, g9], hnow, hdeg, by omega, ?_⟩
      intro i hi1 hi2
      by_cases e : i = j
      · subst e; rw [e1]; exact hb
      · exact hbits i (by omega) hi2
--@CON spec.prLeast: exact prLeast_ok _ _ _ _ (by first | assumption | (refine SliceAt.ext (by assumption) ?_; exact xt)) (by assumption) (by first | assumption | omega)

end Go.Proofs.Ytopbfmhajbjepaa
