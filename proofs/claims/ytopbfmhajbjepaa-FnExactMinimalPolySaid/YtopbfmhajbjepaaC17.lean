/- Contracts: what pairs reach; the least polynomial, of the program. -/
import Derived.Test.YtopbfmhajbjepaaC16
namespace Go.Proofs.Ytopbfmhajbjepaa
open Go
set_option linter.unusedSimpArgs false
set_option linter.unusedVariables false

/-- Pairs that may be added. -/
def POK (ps : List (Nat × Nat)) : Prop := ps.length < 1024 ∧ ∀ x ∈ ps, x.1 ≠ 0 ∧ x.1 < 9223372036854775808 ∧ x.2 < 9223372036854775808
theorem tp_eq {a b : Nat} (ha : a ≠ 0) (h : tp a = tp b) : b ≠ 0 ∧ a.log2 = b.log2 := by
  unfold tp at h
  rw [if_neg ha] at h
  split at h
  · omega
  · rename_i hb; exact ⟨hb, by omega⟩
theorem same_top_lt {a b : Nat} (ha : a ≠ 0) (hb : b ≠ 0) (h : a.log2 = b.log2) : b ^^^ a < 2 ^ b.log2 := by
  have d1 := Deg.of ha
  have d2 := Deg.of hb
  rw [h] at d1
  exact d2.same d1
theorem bl_lt {l m : Nat} (h : l < 2 ^ m) : bl l ≤ m := bl_le h

set_option maxRecDepth 10000 in
theorem reach_ok (ps : List (Nat × Nat)) (l0 b : Nat) (v : AV) (rs : List AV) (ro : Bool) (H : AH) (hb : H.blk b = .cells 3 ro (v :: rs)) (hs : PairsAt H v ps) (hp : POK ps) (hl0 : l0 < 9223372036854775808) :
    E 202 [.ptr b 0, .int .i64 l0] H (Is (.tup [.int .i64 ((rch ps l0).1 : Nat), .int .i64 ((rch ps l0).2 : Nat)]) H) := by
  have hld : ∀ H', Ext H H' → aload1 TA H' 112 (.ptr b 0) = some (v, H') := fun H' x => aload_cell (t := 112) rfl rfl (x.cells hb) rfl
  have hps := hp.1
  refine Ev.enterK (fn := Try.f202) rfl Try.func202 rfl (by kernel_rfl) (by simp [Try.ntmps202]) ?_
  (simp (disch := first | exact dsch | kernel_rfl) only [go_sem, ↓reduceIte, Nat.reduceEqDiff, Nat.reduceLT, Nat.reduceAdd, reduceCtorEq, Int.reduceToNat, Try.ntmps202, Try.results202] <;> repeat' ((first | refine AK.drawT (by kernel_rfl) ?_ | ((first | refine ABK_mk ?_ ?_ | refine AGK_mk ?_ ?_) <;> intro hb <;> (try simp only [decide_eq_true_eq, decide_eq_false_iff_not, Bool.not_eq_true', Bool.not_eq_false', Bool.not_not] at hb) <;> (try (exfalso; omega)) <;> (try subst hb) <;> try simp only [hb, decide_true, decide_false])) <;> try simp (disch := first | exact dsch | kernel_rfl) only [go_sem, ↓reduceIte, Nat.reduceEqDiff, Nat.reduceLT, Nat.reduceAdd, reduceCtorEq, Int.reduceToNat, Try.ntmps202, Try.results202]))
  refine (AK.while [6, 7, 8, 9, 10, 11, 12, 13, 14, 15, 16, 17, 18, 19, 20, 21, 22, 23, 24, 25, 26, 27, 28, 29, 30, 31, 32, 33, 34, 35, 36, 37] (by kernel_rfl) (fun k tm H' => ∃ p n : Nat, Ext H H' ∧ H'.blk H.size = .cells 1 false [.int .i64 k] ∧ tm 6 = .int .i64 p ∧ rchF ps n k p = rch ps l0 ∧ bl k ≤ n ∧ k < 9223372036854775808 ∧ p < 9223372036854775808) l0
    ⟨0, bl l0, Ext.push _ _, AH.push_same _ _, by simp [go_sem], rfl, Nat.le_refl _, hl0, by omega⟩ ?_)
  rintro l tm H' K fr ⟨p, n, hx, hc, h6, hr, hn, hl, hp63⟩ hK
  have hlc : ∀ H'', Ext H' H'' → aload1 TA H'' 3 (.ptr H.size 0) = some (.int .i64 l, H'') := fun H'' x => aload_cell (t := 3) rfl rfl (x.cells hc) rfl
  have hstc : ∀ H'', Ext H' H'' → ∀ y : Int, astore1 TA H'' 3 (.ptr H.size 0) (.int .i64 y) = some (.undef, H''.put H.size (.cells 1 false [.int .i64 y])) := fun H'' x y => astore_cell (t := 3) rfl rfl rfl (x.cells hc) (by simp) rfl
  have hcs := AH.cells_lt hc
  by_cases hz : l = 0
  · subst hz
    (simp (disch := first | exact dsch | kernel_rfl) only [go_sem, ↓reduceIte, Nat.reduceEqDiff, Nat.reduceLT, Nat.reduceAdd, reduceCtorEq, Int.reduceToNat, Try.ntmps202, Try.results202, fr, h6, hlc, Int.natCast_eq_zero] <;> repeat' ((first | refine AK.drawT (by kernel_rfl) ?_ | ((first | refine ABK_mk ?_ ?_ | refine AGK_mk ?_ ?_) <;> intro hb <;> (try simp only [decide_eq_true_eq, decide_eq_false_iff_not, Bool.not_eq_true', Bool.not_eq_false', Bool.not_not] at hb) <;> (try (exfalso; omega)) <;> (try subst hb) <;> try simp only [hb, decide_true, decide_false])) <;> try simp (disch := first | exact dsch | kernel_rfl) only [go_sem, ↓reduceIte, Nat.reduceEqDiff, Nat.reduceLT, Nat.reduceAdd, reduceCtorEq, Int.reduceToNat, Try.ntmps202, Try.results202, fr, h6, hlc, Int.natCast_eq_zero]))
    have e : rchF ps n 0 p = (0, p) := by cases n <;> simp [rchF]
    rw [e] at hr
    exact Is.mk (by rw [← hr]) (by exact xt)
  · obtain ⟨n', rfl⟩ : ∃ n', n = n' + 1 := ⟨n - 1, by have : bl l = l.log2 + 1 := if_neg hz
                                                      omega⟩
    simp only [rchF, if_neg hz] at hr
    (simp (disch := first | exact dsch | kernel_rfl) only [go_sem, ↓reduceIte, Nat.reduceEqDiff, Nat.reduceLT, Nat.reduceAdd, reduceCtorEq, Int.reduceToNat, Try.ntmps202, Try.results202, fr, h6, hlc, hld, Int.natCast_eq_zero, hz] <;> repeat' ((first | refine AK.drawT (by kernel_rfl) ?_ | ((first | refine ABK_mk ?_ ?_ | refine AGK_mk ?_ ?_) <;> intro hb <;> (try simp only [decide_eq_true_eq, decide_eq_false_iff_not, Bool.not_eq_true', Bool.not_eq_false', Bool.not_not] at hb) <;> (try (exfalso; omega)) <;> (try subst hb) <;> try simp only [hb, decide_true, decide_false])) <;> try simp (disch := first | exact dsch | kernel_rfl) only [go_sem, ↓reduceIte, Nat.reduceEqDiff, Nat.reduceLT, Nat.reduceAdd, reduceCtorEq, Int.reduceToNat, Try.ntmps202, Try.results202, fr, h6, hlc, hld, Int.natCast_eq_zero, hz]))
    refine AOK_is (indexPair_ok ps v 230 [.ptr H.size 0] (fun x => tp x.1 == tp l) _ (SliceAt.ext hs hx) (by omega) fun x hxm H1 x1 => ?_) ?_
    · have := closure_reach_ok x.1 x.2 l H.size H1 false (x1.cells hc) (hp.2 x hxm).2.1 hl
      rwa [show decide (tp x.1 = tp l) = (tp x.1 == tp l) from rfl] at this
    · intro H1 x1
      rcases fidx_cases (fun x : Nat × Nat => tp x.1 == tp l) ps with ⟨e1, e2⟩ | ⟨i, hi, e1, e2, e3⟩
      · have e3 : ps.find? (fun x => tp x.1 == tp l) = none := List.find?_eq_none.2 fun x hx => by rw [e2 x hx]; simp
        rw [e3] at hr
        rw [e1]
        (simp (disch := first | exact dsch | kernel_rfl) only [go_sem, ↓reduceIte, Nat.reduceEqDiff, Nat.reduceLT, Nat.reduceAdd, reduceCtorEq, Int.reduceToNat, Try.ntmps202, Try.results202, fr, h6, hlc] <;> repeat' ((first | refine AK.drawT (by kernel_rfl) ?_ | ((first | refine ABK_mk ?_ ?_ | refine AGK_mk ?_ ?_) <;> intro hb <;> (try simp only [decide_eq_true_eq, decide_eq_false_iff_not, Bool.not_eq_true', Bool.not_eq_false', Bool.not_not] at hb) <;> (try (exfalso; omega)) <;> (try subst hb) <;> try simp only [hb, decide_true, decide_false])) <;> try simp (disch := first | exact dsch | kernel_rfl) only [go_sem, ↓reduceIte, Nat.reduceEqDiff, Nat.reduceLT, Nat.reduceAdd, reduceCtorEq, Int.reduceToNat, Try.ntmps202, Try.results202, fr, h6, hlc]))
        exact Is.mk (by rw [← hr]) (by exact xt)
      · rw [e3] at hr
        rw [e1]
        have hmem := List.getElem_mem hi
        have eg : ps.getD i (0, 0) = ps[i] := by simp [List.getD, hi]
        generalize ps[i] = x at *
        obtain ⟨p1, p2, p3⟩ := hp.2 x hmem
        obtain ⟨_, etop⟩ := tp_eq p1 (by simpa using e2)
        have hlt := same_top_lt p1 hz etop
        have hi0 : ¬ ((i : Int) < 0) := by omega
        have hdec : l ^^^ x.1 < l := Nat.lt_of_lt_of_le hlt (Deg.of hz).ge
        (simp (disch := first | exact dsch | kernel_rfl) only [go_sem, ↓reduceIte, Nat.reduceEqDiff, Nat.reduceLT, Nat.reduceAdd, reduceCtorEq, Int.reduceToNat, Try.ntmps202, Try.results202, fr, h6, hlc, hld, hstc, hi0, PairsAt.ix hs, PairsAt.ld0 hs, PairsAt.ld1 hs, eg] <;> repeat' ((first | refine AK.drawT (by kernel_rfl) ?_ | ((first | refine ABK_mk ?_ ?_ | refine AGK_mk ?_ ?_) <;> intro hb <;> (try simp only [decide_eq_true_eq, decide_eq_false_iff_not, Bool.not_eq_true', Bool.not_eq_false', Bool.not_not] at hb) <;> (try (exfalso; omega)) <;> (try subst hb) <;> try simp only [hb, decide_true, decide_false])) <;> try simp (disch := first | exact dsch | kernel_rfl) only [go_sem, ↓reduceIte, Nat.reduceEqDiff, Nat.reduceLT, Nat.reduceAdd, reduceCtorEq, Int.reduceToNat, Try.ntmps202, Try.results202, fr, h6, hlc, hld, hstc, hi0, PairsAt.ix hs, PairsAt.ld0 hs, PairsAt.ld1 hs, eg]))
        refine hK (l ^^^ x.1) _ _ hdec ⟨p ^^^ x.2, n', ?_, put_blk_same (Nat.lt_of_lt_of_le hcs x1.size), by simp only [go_sem, ↓reduceIte, Nat.reduceEqDiff], hr, ?_, by omega, xor_lt63 hp63 p3⟩
        · exact (hx.trans x1).put (Nat.le_refl _) _
        · have := bl_le hlt
          have hbl : bl l = l.log2 + 1 := if_neg hz
          omega


theorem rchF_spec {m : List Nat} {s k : Nat} {ps : List (Nat × Nat)} (hE : El m s k ps) (A : Nat) : ∀ n l p, bl l ≤ n → l = A ^^^ pe m s p → p < 2 ^ k →
    (rchF ps n l p).1 = A ^^^ pe m s (rchF ps n l p).2 ∧ (rchF ps n l p).2 < 2 ^ k ∧ ((rchF ps n l p).1 = 0 ∨ ∀ x ∈ ps, x.1.log2 ≠ (rchF ps n l p).1.log2)
  | 0, l, p, hn, hl, hp => by
    have : l = 0 := by unfold bl at hn; split at hn; assumption; omega
    exact ⟨hl, hp, .inl this⟩
  | n + 1, l, p, hn, hl, hp => by
    by_cases hz : l = 0
    · simp only [rchF, if_pos hz]; exact ⟨hl, hp, .inl hz⟩
    · simp only [rchF, if_neg hz]
      cases hf : ps.find? (fun x => tp x.1 == tp l) with
      | none =>
        refine ⟨hl, hp, .inr fun x hx e => ?_⟩
        have := List.find?_eq_none.1 hf x hx
        have hne : x.1 ≠ 0 := hE.ech.ne _ (List.mem_map.2 ⟨x, hx, rfl⟩)
        refine this ?_
        unfold tp
        rw [if_neg hne, if_neg hz, e]; simp
      | some x =>
        have hx := List.mem_of_find?_eq_some hf
        have ht := List.find?_some hf
        have hne : x.1 ≠ 0 := hE.ech.ne _ (List.mem_map.2 ⟨x, hx, rfl⟩)
        obtain ⟨h1, h2⟩ := hE.val x hx
        obtain ⟨_, et⟩ := tp_eq hne (by simpa using ht)
        have hlt := same_top_lt hne hz et
        have hbl : bl l = l.log2 + 1 := if_neg hz
        refine rchF_spec hE A n _ _ (by have := bl_le hlt; omega) ?_ (Nat.xor_lt_two_pow hp h2)
        rw [pe_addP, hl, h1, Nat.xor_assoc]

/-- Pairs that are being made. -/
def OwnP (H0 H : AH) (v : AV) (ps : List (Nat × Nat)) : Prop := (v = .nilsl ∧ ps = []) ∨ ∃ b, v = .sl b 0 ps.length ∧ H0.size ≤ b ∧ H.blk b = .cells 2 false (pcs ps)
theorem OwnP.pairs {H0 H : AH} {v : AV} {ps : List (Nat × Nat)} (h : OwnP H0 H v ps) : PairsAt H v ps := by
  rcases h with ⟨rfl, rfl⟩ | ⟨b, rfl, h2, h3⟩
  · exact .inl ⟨rfl, rfl⟩
  · exact .inr ⟨b, 0, _, _, _, rfl, h3, by rw [pcs_length]; omega, by rw [List.drop_zero, List.take_of_length_le (by rw [pcs_length]; omega)]⟩
theorem OwnP.ext {H0 H H' : AH} {v : AV} {ps : List (Nat × Nat)} (h : OwnP H0 H v ps) (x : Ext H H') : OwnP H0 H' v ps := h.imp id fun ⟨b, h1, h2, h3⟩ => ⟨b, h1, h2, x.cells h3⟩
theorem OwnP.sans {H0 H : AH} {v : AV} {ps : List (Nat × Nat)} (h : OwnP H0 H v ps) {H' : AH} (x : Ext H0 H') : Ext H0 (H'.sans v) := by
  rcases h with ⟨rfl, _⟩ | ⟨b, rfl, h2, _⟩
  · exact x
  · exact x.put h2 _
theorem OwnP.app {H0 H H1 : AH} {v : AV} {ps : List (Nat × Nat)} (h : OwnP H0 H v ps) (x : Ext H H1) (hl : ps.length < 1000000) {a b : Nat} :
    aappend2 TA (H1.push (.cells 2 false [.int .i64 (a : Nat), .int .i64 (b : Nat)])) 112 112 v (.sl H1.size 0 1) =
      some (.sl H1.size.succ 0 (ps.length + 1), ((H1.push (.cells 2 false [.int .i64 (a : Nat), .int .i64 (b : Nat)])).sans v).push (.cells 2 false (pcs (ps ++ [(a, b)])))) := by
  have hT : TA 112 = some td112 := rfl
  have hTe : TA 134 = some td134 := rfl
  have hs : (H1.push (.cells 2 false [.int .i64 (a : Nat), .int .i64 (b : Nat)])).size = H1.size.succ := rfl
  have h2 : asource (H1.push (.cells 2 false [.int .i64 (a : Nat), .int .i64 (b : Nat)])) 2 (.sl H1.size 0 1) = some (1, [.int .i64 (a : Nat), .int .i64 (b : Nat)]) := by
    simp [asource, AH.push_same]
  have x1 := x.trans (Ext.push H1 (.cells 2 false [.int .i64 (a : Nat), .int .i64 (b : Nat)]))
  have h1 : asource (H1.push (.cells 2 false [.int .i64 (a : Nat), .int .i64 (b : Nat)])) 2 v = some (ps.length, pcs ps) := by
    rcases h with ⟨rfl, rfl⟩ | ⟨c, rfl, _, h3⟩
    · rfl
    · simp only [asource, x1.cells h3]
      rw [if_pos ⟨trivial, by rw [pcs_length]; omega⟩, List.drop_zero, List.take_of_length_le (by rw [pcs_length]; omega)]
  rw [app_eq (d := td112) (de := td134) hT rfl hTe h1 h2 (by decide) rfl (show (ps.length + 1) * 16 ≤ 140737488355328 by omega) (by omega), if_neg (by omega)]
  have hk : (H1.push (.cells 2 false [.int .i64 (a : Nat), .int .i64 (b : Nat)])).kill v = some ((H1.push (.cells 2 false [.int .i64 (a : Nat), .int .i64 (b : Nat)])).sans v) := by
    rcases h with ⟨rfl, rfl⟩ | ⟨c, rfl, _, h3⟩
    · rfl
    · simp only [AH.kill, x1.cells h3, AH.sans]
  rw [hk, pcs_append]; rfl

theorem OwnP.base {H0 H1 H : AH} {v : AV} {ps : List (Nat × Nat)} (h : OwnP H1 H v ps) (l : H0.size ≤ H1.size) : OwnP H0 H v ps := h.imp id fun ⟨b, h1, h2, h3⟩ => ⟨b, h1, by omega, h3⟩
theorem sans_blk {H : AH} {v : AV} {c : Nat} (h : v = .nilsl ∨ v.sb ≠ c) : (H.sans v).blk c = H.blk c := by
  rcases h with rfl | h
  · rfl
  · cases v <;> try rfl
    exact put_blk_ne (fun e => h e.symm)
theorem solver_st {H : AH} {x y z : AV} : astore1 TA (H.push (.cells 3 false [x, y, z])) 114 (.ptr H.size 0) (.agg [.nilsl, .nilsl, .nilsl]) = some (.undef, H.push (.cells 3 false [.nilsl, .nilsl, .nilsl])) := by
  show (astore td114 _ _ _ _).map _ = _
  unfold astore
  rw [AH.push_same]
  show Option.map _ (if _ then _ else _) = _
  rw [if_pos (show td114.agg = true from rfl), if_pos ⟨rfl, by simp [td114], rfl⟩]
  simp only [Option.map_some, splice, AV.cells]
  simp [push_put]
theorem solver_alloc {H : AH} : aalloc TA H 114 = some (.ptr H.size 0, H.push (.cells 3 false [.nilsl, .nilsl, .nilsl])) := rfl

set_option maxRecDepth 10000 in
theorem minimalOf_ok (m : List Nat) (s : Nat) (v : AV) (H : AH) (hv : NatsAt H v m) (hm : MapOK m) (hs : s < 2 ^ m.length) : E 132 [v, .int .i64 s] H (Is (.int .i64 (lp m s : Nat)) H) := by
  have hn16 := hm.1
  have hp16 : 2 ^ m.length ≤ 65536 := Nat.pow_le_pow_right (n := 2) (by omega) hm.1.2
  have hm63 : ∀ i < m.length, m.getD i 0 < 9223372036854775808 := fun i _ => Nat.lt_trans (hm.lt i) (by omega)
  have hpw : ∀ k, pw m s k < 2 ^ m.length := pw_lt hm.2 hs
  have hpe : ∀ p, pe m s p < 2 ^ m.length := pe_lt hm.2 hs
  refine Ev.enterK (fn := Try.f132) rfl Try.func132 rfl (by kernel_rfl) (by simp [Try.ntmps132]) ?_
  (simp (disch := first | exact dsch | kernel_rfl) only [go_sem, ↓reduceIte, Nat.reduceEqDiff, Nat.reduceLT, Nat.reduceAdd, reduceCtorEq, Int.reduceToNat, Try.ntmps132, Try.results132, solver_st, solver_alloc] <;> repeat' ((first | refine AK.drawT (by kernel_rfl) ?_ | ((first | refine ABK_mk ?_ ?_ | refine AGK_mk ?_ ?_) <;> intro hb <;> (try simp only [decide_eq_true_eq, decide_eq_false_iff_not, Bool.not_eq_true', Bool.not_eq_false', Bool.not_not] at hb) <;> (try (exfalso; omega)) <;> (try subst hb) <;> try simp only [hb, decide_true, decide_false])) <;> try simp (disch := first | exact dsch | kernel_rfl) only [go_sem, ↓reduceIte, Nat.reduceEqDiff, Nat.reduceLT, Nat.reduceAdd, reduceCtorEq, Int.reduceToNat, Try.ntmps132, Try.results132, solver_st, solver_alloc]))
  generalize hS : H.push (.cells 3 false [.nilsl, .nilsl, .nilsl]) = S
  have hSz : S.size = H.size + 1 := by rw [← hS]; rfl
  have hSx : Ext H S := by rw [← hS]; exact Ext.push _ _
  have hSb : S.blk H.size = .cells 3 false [.nilsl, .nilsl, .nilsl] := by rw [← hS]; exact AH.push_same _ _
  refine (AK.count 6 [1, 4, 6, 7, 8, 10, 11, 12, 13, 14, 15, 16, 17, 18, 19, 20, 21, 22, 23, 24, 25, 26, 27, 28, 29, 30, 31, 32, 33, 34] (by kernel_rfl) 0 (m.length + 1) (fun k tm H' => Ext H H' ∧ S.size ≤ H'.size ∧ ∃ (ps : List (Nat × Nat)) (u : AV), tm 1 = .int .i64 (pw m s k : Nat) ∧ El m s k ps ∧ H'.blk H.size = .cells 3 false [u, .nilsl, .nilsl] ∧ OwnP S H' u ps)
    (by rfl) (by omega) ⟨hSx, Nat.le_refl _, [], .nilsl, by simp [go_sem, pw], El.start m s, hSb, .inl ⟨rfl, rfl⟩⟩ ?_)
  rintro k tm H' K h1 h2 fr hq ⟨hx, hSs, ps, u, hs1, hE, hb, ho⟩ hK
  have hkn : k ≤ m.length := hE.le hm.2 hs
  have hlen := hE.len
  have hpwk := hpw k
  have h2k : 2 ^ k ≤ 65536 := Nat.pow_le_pow_right (n := 2) (by omega) (show k ≤ 16 by omega)
  have hPOK : POK ps := ⟨by omega, fun x hx => ⟨hE.ech.ne _ (List.mem_map.2 ⟨x, hx, rfl⟩), by rw [(hE.val x hx).1]; have := hpe x.2; omega, by have := (hE.val x hx).2; omega⟩⟩
  obtain ⟨r1, r2, r3⟩ := rchF_spec hE (pw m s k) (bl (pw m s k)) (pw m s k) 0 (Nat.le_refl _) (by rw [(pe_linP m s).zero, Nat.xor_zero]) (Nat.two_pow_pos k)
  (simp (disch := first | exact dsch | kernel_rfl) only [go_sem, ↓reduceIte, Nat.reduceEqDiff, Nat.reduceLT, Nat.reduceAdd, reduceCtorEq, Int.reduceToNat, Try.ntmps132, Try.results132, fr, hq, hs1] <;> repeat' ((first | refine AK.drawT (by kernel_rfl) ?_ | ((first | refine ABK_mk ?_ ?_ | refine AGK_mk ?_ ?_) <;> intro hb <;> (try simp only [decide_eq_true_eq, decide_eq_false_iff_not, Bool.not_eq_true', Bool.not_eq_false', Bool.not_not] at hb) <;> (try (exfalso; omega)) <;> (try subst hb) <;> try simp only [hb, decide_true, decide_false])) <;> try simp (disch := first | exact dsch | kernel_rfl) only [go_sem, ↓reduceIte, Nat.reduceEqDiff, Nat.reduceLT, Nat.reduceAdd, reduceCtorEq, Int.reduceToNat, Try.ntmps132, Try.results132, fr, hq, hs1]))
  refine AOK_is (X := .tup [.int .i64 ((rch ps (pw m s k)).1 : Nat), .int .i64 ((rch ps (pw m s k)).2 : Nat)]) ?_ ?_
  · simp (disch := first | exact dsch | kernel_rfl) only [go_sem, ↓reduceIte, Nat.reduceEqDiff, Nat.reduceLT, Nat.reduceAdd, reduceCtorEq, Int.reduceToNat, Try.ntmps132, Try.results132, fr, hq, hs1]
    exact reach_ok ps (pw m s k) H.size u _ false H' hb ho.pairs hPOK (by omega)
  intro H1 x1
  unfold rch
  generalize rchF ps (bl (pw m s k)) (pw m s k) 0 = r at *
  have hdeg : Deg (r.2 ^^^ 2 ^ k) k := by rw [Nat.xor_comm]; exact Deg.mk' r2 rfl
  have hval : r.1 = pe m s (r.2 ^^^ 2 ^ k) := by rw [pe_addP, pe_pow, r1, Nat.xor_comm]
  have hr1 : r.1 < 65536 := by have := hpe (r.2 ^^^ 2 ^ k); rw [← hval] at this; omega
  have hr2 : r.2 < 65536 := by omega
  have hx1 := hx.trans x1
  by_cases hz : r.1 = 0
  · have hmin := hE.done hdeg (by rw [← hval, hz])
    (simp (disch := first | exact dsch | kernel_rfl) only [go_sem, ↓reduceIte, Nat.reduceEqDiff, Nat.reduceLT, Nat.reduceAdd, reduceCtorEq, Int.reduceToNat, Try.ntmps132, Try.results132, fr, hq, hs1, hz] <;> repeat' ((first | refine AK.drawT (by kernel_rfl) ?_ | ((first | refine ABK_mk ?_ ?_ | refine AGK_mk ?_ ?_) <;> intro hb <;> (try simp only [decide_eq_true_eq, decide_eq_false_iff_not, Bool.not_eq_true', Bool.not_eq_false', Bool.not_not] at hb) <;> (try (exfalso; omega)) <;> (try subst hb) <;> try simp only [hb, decide_true, decide_false])) <;> try simp (disch := first | exact dsch | kernel_rfl) only [go_sem, ↓reduceIte, Nat.reduceEqDiff, Nat.reduceLT, Nat.reduceAdd, reduceCtorEq, Int.reduceToNat, Try.ntmps132, Try.results132, fr, hq, hs1, hz]))
    exact Is.mk (by rw [lp_eq hmin]) (by exact xt)
  · have hld : ∀ H'', Ext H1 H'' → aload1 TA H'' 112 (.ptr H.size 0) = some (u, H'') := fun H'' x => aload_cell (t := 112) rfl rfl ((x1.trans x).cells hb) rfl
    have hown := ho.ext x1
    have happ := hown.app (Ext.refl _) (show ps.length < 1000000 by omega) (a := r.1) (b := r.2 ^^^ 2 ^ k)
    generalize hY : ((H1.push (.cells 2 false [.int .i64 (r.1 : Nat), .int .i64 (r.2 ^^^ 2 ^ k : Nat)])).sans u).push (.cells 2 false (pcs (ps ++ [(r.1, r.2 ^^^ 2 ^ k)]))) = Y at happ
    have hH1 : H.size < H1.size := by have := x1.size; omega
    have husb : u = .nilsl ∨ u.sb ≠ H.size := by
      rcases hown with ⟨e, _⟩ | ⟨b, e, h2, _⟩
      · exact .inl e
      · right; subst e; simp only [AV.sb]; omega
    have hYb : Y.blk H.size = .cells 3 false [u, .nilsl, .nilsl] := by
      rw [← hY, AH.push_ne _ _ (by rw [sans_size, push_size]; omega), sans_blk husb, AH.push_ne _ _ (by omega)]
      exact x1.cells hb
    have hYx : Ext H Y := by
      rw [← hY]
      exact ((hown.base (H0 := H) (by omega)).sans (hx1.trans (Ext.push _ _))).trans (Ext.push _ _)
    have hYs : Y.size = H1.size + 2 := by rw [← hY, push_size, sans_size, push_size]
    have hYo : OwnP S Y (.sl H1.size.succ 0 (ps.length + 1)) (ps ++ [(r.1, r.2 ^^^ 2 ^ k)]) := by
      refine .inr ⟨H1.size.succ, by simp, by have := x1.size; omega, ?_⟩
      have := AH.push_same ((H1.push (.cells 2 false [.int .i64 (r.1 : Nat), .int .i64 (r.2 ^^^ 2 ^ k : Nat)])).sans u) (.cells 2 false (pcs (ps ++ [(r.1, r.2 ^^^ 2 ^ k)])))
      rw [hY, sans_size, push_size] at this
      exact this
    have hst : astore1 TA Y 112 (.ptr H.size 0) (.sl H1.size.succ 0 (ps.length + 1)) = some (.undef, Y.put H.size (.cells 3 false [.sl H1.size.succ 0 (ps.length + 1), .nilsl, .nilsl])) :=
      astore_cell (t := 112) rfl rfl rfl hYb (by simp) rfl
    have hYp : Ext H (Y.put H.size (.cells 3 false [.sl H1.size.succ 0 (ps.length + 1), .nilsl, .nilsl])) := hYx.put (Nat.le_refl _) _
    (simp (disch := first | exact dsch | kernel_rfl) only [go_sem, ↓reduceIte, Nat.reduceEqDiff, Nat.reduceLT, Nat.reduceAdd, reduceCtorEq, Int.reduceToNat, Try.ntmps132, Try.results132, fr, hq, hs1, hz, Int.natCast_eq_zero, hld, happ, hst] <;> repeat' ((first | refine AK.drawT (by kernel_rfl) ?_ | ((first | refine ABK_mk ?_ ?_ | refine AGK_mk ?_ ?_) <;> intro hb <;> (try simp only [decide_eq_true_eq, decide_eq_false_iff_not, Bool.not_eq_true', Bool.not_eq_false', Bool.not_not] at hb) <;> (try (exfalso; omega)) <;> (try subst hb) <;> try simp only [hb, decide_true, decide_false])) <;> try simp (disch := first | exact dsch | kernel_rfl) only [go_sem, ↓reduceIte, Nat.reduceEqDiff, Nat.reduceLT, Nat.reduceAdd, reduceCtorEq, Int.reduceToNat, Try.ntmps132, Try.results132, fr, hq, hs1, hz, Int.natCast_eq_zero, hld, happ, hst]))
    refine AOK_is (apply_ok m (pw m s k) v _ (SliceAt.ext hv hYp) (by omega) hm63 (by omega)) ?_
    intro H2 x2
    (simp (disch := first | exact dsch | kernel_rfl) only [go_sem, ↓reduceIte, Nat.reduceEqDiff, Nat.reduceLT, Nat.reduceAdd, reduceCtorEq, Int.reduceToNat, Try.ntmps132, Try.results132, fr, hq] <;> repeat' ((first | refine AK.drawT (by kernel_rfl) ?_ | ((first | refine ABK_mk ?_ ?_ | refine AGK_mk ?_ ?_) <;> intro hb <;> (try simp only [decide_eq_true_eq, decide_eq_false_iff_not, Bool.not_eq_true', Bool.not_eq_false', Bool.not_not] at hb) <;> (try (exfalso; omega)) <;> (try subst hb) <;> try simp only [hb, decide_true, decide_false])) <;> try simp (disch := first | exact dsch | kernel_rfl) only [go_sem, ↓reduceIte, Nat.reduceEqDiff, Nat.reduceLT, Nat.reduceAdd, reduceCtorEq, Int.reduceToNat, Try.ntmps132, Try.results132, fr, hq]))
    refine hK _ _ (by omega) (by rfl) ⟨hYp.trans x2, ?_, ps ++ [(r.1, r.2 ^^^ 2 ^ k)], .sl H1.size.succ 0 (ps.length + 1), by simp [go_sem, pw], ?_, ?_, ?_⟩
    · have := x2.size; rw [put_size] at this; have := x1.size; omega
    · have := El.next (l1 := ps) (l2 := []) (by rw [List.append_nil]; exact hE) hdeg hval hz (fun x hx => by rw [List.append_nil] at hx; exact (r3.resolve_left hz) x hx)
      exact this
    · exact x2.cells (put_blk_same (by omega))
    · refine OwnP.ext ?_ x2
      rcases hYo with ⟨e, _⟩ | ⟨b, e, h2, h3⟩
      · cases e
      · exact .inr ⟨b, e, h2, by rw [put_blk_ne (by omega)]; exact h3⟩
--@CON impl.minimalOf: exact minimalOf_ok _ _ _ _ (by first | assumption | (refine SliceAt.ext (by assumption) ?_; exact xt)) (by assumption) (by first | assumption | omega)

end Go.Proofs.Ytopbfmhajbjepaa
