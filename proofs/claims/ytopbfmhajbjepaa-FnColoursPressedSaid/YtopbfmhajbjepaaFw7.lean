/- append, make, and slices that are written out. -/
import Derived.Test.YtopbfmhajbjepaaFw6
import Derived.Laws.BytesString
namespace Go.Proofs.Ytopbfmhajbjepaa
open Go
set_option linter.unusedSectionVars false
set_option linter.unusedSimpArgs false
set_option linter.unusedVariables false

theorem Rel.of_heap {μ : Mu} {H : AH} {w w' : World} (h : Rel μ H w) (e : w'.heap = w.heap) : Rel μ H w' :=
  ⟨by rw [e]; exact h.dom, by rw [e]; exact h.cells, by rw [e]; exact h.maps, h.inj⟩

theorem conc_drew {μ : Mu} {H : AH} {w : World} (h : Rel μ H w) : Conc μ μ H H w w.drew :=
  ⟨h.of_heap rfl, fun _ _ => rfl, Nat.le_refl _, Nat.le_refl _, rfl, rfl, rfl, fun b p h1 h2 => by omega, fun _ _ _ => rfl, fun _ _ _ => rfl, fun _ _ h => h, fun _ _ h => h⟩

theorem abytes_rel {μ : Mu} : ∀ {cs : List AV} {ns : List Int} {vs : List Value}, abytes cs = some ns → VRels μ cs vs → vs = ns.map (Value.int .u8)
  | [], ns, vs, h, r => by cases h; exact r
  | c :: cs, ns, vs, h, r => by
    obtain ⟨v, r0, rfl, r1, r2⟩ := r
    unfold abytes at h
    split at h
    · rename_i h0; cases h0
    · rename_i n l h0
      cases h0
      cases hl : abytes cs with
      | none => rw [hl] at h; cases h
      | some ms =>
        rw [hl] at h
        cases h
        have := r1
        rw [show v = Value.int .u8 n from r1, abytes_rel hl r2]; rfl
    · cases h
theorem foldl_push_strN : ∀ (ns : List Int) (s : ByteArray), ns.foldl (fun r n => r.push (UInt8.ofNat n.toNat)) s = ⟨s.data ++ (ns.map fun n => UInt8.ofNat n.toNat).toArray⟩
  | [], s => by simp
  | n :: ns, s => by
    rw [List.foldl_cons, foldl_push_strN ns]
    simp [ByteArray.push]
theorem fold_strN (ns : List Int) : ns.foldl (fun r n => r.push (UInt8.ofNat n.toNat)) ByteArray.empty = strN ns := by
  rw [foldl_push_strN]
  simp [strN, ByteArray.empty, ByteArray.emptyWithCapacity]
  rfl

section
variable {P : Program} {T : TT} (hT : ∀ t d, T t = some d → TDOK P t d) {μ : Mu} {H : AH} {w : World}

include hT in
theorem source_rel (hR : Rel μ H w) {size : Nat} {x : AV} {m : Nat} {new : List AV} (h : asource H size x = some (m, new)) {b : Value} (hb : VRel μ x b) (hs : size ≠ 0) :
    ∃ vs : List Value, (Builtin.lenOf b).run P w = .ok m w ∧ (Builtin.firstCells size m b).run P w = .ok vs.toArray w ∧ VRels μ new vs ∧ vs.length = m * size ∧ new.length = m * size := by
  unfold asource at h
  split at h
  · cases h; simp only [VRel] at hb; subst hb
    exact ⟨[], by simp [Builtin.lenOf], by simp [Builtin.firstCells], rfl, by simp, by simp⟩
  · rename_i bl o n
    split at h
    · rename_i e ro xs hbl
      split at h
      · rename_i hc
        cases h
        simp only [VRel] at hb
        obtain ⟨q, cap, rfl, hle, h0⟩ := hb
        have hlen : ((xs.drop o).take (m * size)).length = m * size := by simp; omega
        rcases Nat.eq_zero_or_pos m with hm | hm
        · subst hm
          exact ⟨[], by simp [Builtin.lenOf], by simp [Builtin.firstCells, loadCells, loadCellsFrom], by simp [VRels], by simp, by simp⟩
        · rcases h0 with h0 | ⟨p, hp, rfl, _⟩
          · omega
          · obtain ⟨vs, hv, hr⟩ := loadCells_rel (P := P) (T := T) hT hR hp hbl o (m * size) hc.2
            exact ⟨vs, by simp [Builtin.lenOf], by simpa [Builtin.firstCells] using hv, hr, by rw [VRels.length _ _ hr, hlen], hlen⟩
      · cases h
    · cases h
  · rename_i s
    split at h
    · rename_i h1
      cases h
      subst h1
      simp only [VRel] at hb
      subst hb
      refine ⟨s.data.toList.map fun b => .int .u8 b.toNat, by simp [Builtin.lenOf], ?_, ?_, by simp, by simp⟩
      · simp only [Builtin.firstCells, Sem.run_pure]
        congr 1
        apply Array.ext'
        simp [ByteArray.extract_zero_size]
      · apply VRels.of
        · simp
        · intro i x hi
          simp only [List.getElem?_map, Option.map_eq_some_iff] at hi ⊢
          obtain ⟨c, hc, rfl⟩ := hi
          exact ⟨_, ⟨c, hc, rfl⟩, rfl⟩
    · cases h
  · cases h

theorem set_rel {x : AV} {v : Value} (h : VRel μ x v) (hn : μ H.size = none) (p : Place) : VRel (μ.set H.size p) x v := VRel.mono (Mu.le_set p hn) x v h

include hT

theorem append_run_room {ts : Array TypeId} {t u e : TypeId} {d du de : TD} (ht0 : ts[0]? = some t) (ht1 : ts[1]? = some u) (hd : T t = some d) (hdd : d.d = .slice e) (hde : T e = some de) (hu : T u = some du)
    (hud : ∀ k, du.d ≠ .int k) (ty : TypeId) {base : Option Addr} {n cap m : Nat} {b : Value} {vs : List Value} (hl : (Builtin.lenOf b).run P w = .ok m w)
    (hf : (Builtin.firstCells de.size m b).run P w = .ok vs.toArray w) (hroom : n + m ≤ cap) :
    (Builtin.append_ ts ty #[.slice base n cap, b]).run P w = (do (match base with | some a => storeCells (a.add (n * de.size)) vs | none => pure ()); pure (.slice base (n + m) cap) : Sem Value).run P w := by
  have h1 := r_under hT hd w
  have h2 := r_under hT hu w
  have h3 := r_size hT hde w
  simp only [Builtin.append_, ht0, ht1, List.getElem?_toArray, List.getElem?_cons_zero, List.getElem?_cons_succ, Sem.run_bind, h1, Result.andThen_ok, hdd, h3, h2]
  have hz : (match du.d with | .int _ => true | _ => false) = false := by
    cases hdu : du.d <;> first | rfl | exact absurd hdu (hud _)
  simp only [Sem.run_pure, Result.andThen_ok, Bool.false_eq_true, if_false, hl, hroom, if_true, Bool.not_false, Sem.run_bind, hf]
  cases base <;> simp

theorem append_run_grow {ts : Array TypeId} {t u e : TypeId} {d du de : TD} (ht0 : ts[0]? = some t) (ht1 : ts[1]? = some u) (hd : T t = some d) (hdd : d.d = .slice e) (hde : T e = some de) (hu : T u = some du)
    (hud : ∀ k, du.d ≠ .int k) (ty : TypeId) {base : Option Addr} {n cap m : Nat} {b : Value} {vs os : List Value} (hl : (Builtin.lenOf b).run P w = .ok m w)
    (hf : (Builtin.firstCells de.size m b).run P w.drew = .ok vs.toArray w.drew) (ho : (Builtin.firstCells de.size n (.slice base n cap)).run P w.drew = .ok os.toArray w.drew)
    (hroom : cap < n + m) (h63 : n + m ≤ 9223372036854775807) (hb : (n + m) * de.bytes ≤ 140737488355328) :
    ∃ z : Value, z.cells.size = de.size ∧ (Builtin.append_ ts ty #[.slice base n cap, b]).run P w = .ok (.slice (some ⟨w.heap.size, 0, none⟩) (n + m) (grownCap w (n + m) cap e))
      (w.drew.alloc (.cells (os ++ vs ++ (Builtin.zeroCells z.cells (grownCap w (n + m) cap e - (n + m))).toList).toArray e)) := by
  have h1 := r_under hT hd w
  have h2 := r_under hT hu w
  have h3 := r_size hT hde w
  obtain ⟨_, _, ie, z, hie, hse, hby, hze, hz1, hz2, _⟩ := hT e de hde
  have hzs : z.cells.size = de.size := by
    have := VRels.length _ _ hz1
    rw [hz2] at this
    simpa using this
  refine ⟨z, hzs, ?_⟩
  have hn : ¬ (n + m ≤ cap) := by omega
  have h63' : ¬ (9223372036854775807 < ((n : Int) + (m : Int))) := by omega
  have h48 := growslice_fits (need := n + m) (old := cap) (bytes := ie.bytes) hroom (by rw [hby]; exact hb)
  have h48' : ¬ (281474976710656 < Builtin.nextslicecap (n + m) cap * ie.bytes) := by omega
  have hz : (match du.d with | .int _ => true | _ => false) = false := by
    cases hdu : du.d <;> first | rfl | exact absurd hdu (hud _)
  rw [← hse] at hf ho
  simp [Builtin.append_, ht0, ht1, h1, h2, hdd, sizeOf, typeInfo, zeroValue, hie, hze, hz, hl, hn, h63', h48', Question.forced, hf, ho, newRow, grownCap]
  congr 2
  apply Array.ext'
  simp

theorem append_rel (hR : Rel μ H w) {ts : Array TypeId} {s x v : AV} {H' : AH} (h : aappend T H ts s x = some (v, H')) (hf : Free μ H.size H'.size) (ty : TypeId) {a b : Value} (ha : VRel μ s a) (hb : VRel μ x b) :
    ∃ v' μ' w', (Builtin.append_ ts ty #[a, b]).run P w = .ok v' w' ∧ Conc μ μ' H H' w w' ∧ VRel μ' v v' := by
  unfold aappend at h
  split at h
  · cases h
  · rename_i t ht0
    split at h
    · cases h
    · rename_i d hd
      split at h
      · rename_i e hdd
        split at h
        · cases h
        · rename_i de hde
          split at h
          · cases h
          · rename_i hts
            have ⟨u, du, ht1, hu, hud⟩ : ∃ u du, ts[1]? = some u ∧ T u = some du ∧ ∀ k, du.d ≠ .int k := by
              unfold srcOk at hts
              cases h1 : ts[1]? with
              | none => simp [h1] at hts
              | some u =>
                cases h2 : T u with
                | none => simp [h1, h2] at hts
                | some du => refine ⟨u, du, rfl, h2, ?_⟩; intro k hk; simp [h1, h2, hk] at hts
            split at h
            · rename_i n old m new hs hx
              split at h
              · cases h
              · rename_i hc
                have hsz : de.size ≠ 0 := by intro k; exact hc (.inl k)
                have hone : new.all AV.one = true := by
                  cases k : new.all AV.one
                  · exact absurd (.inr (.inl k)) hc
                  · rfl
                have hby : (n + m) * de.bytes ≤ 140737488355328 := by
                  rcases Nat.lt_or_ge 140737488355328 ((n + m) * de.bytes) with k | k
                  · exact absurd (.inr (.inr (.inl k))) hc
                  · exact k
                have h63 : n + m ≤ 9223372036854775807 := by
                  rcases Nat.lt_or_ge 9223372036854775807 (n + m) with k | k
                  · exact absurd (.inr (.inr (.inr k))) hc
                  · exact k
                clear hc
                obtain ⟨vs, hl, hfv, hrv, hvl, hnl⟩ := source_rel (P := P) hT hR hx hb hsz
                obtain ⟨os, _, hfo, hro, hol, hoo⟩ := source_rel (P := P) hT hR hs ha hsz
                have hRd : Rel μ H w.drew := hR.of_heap rfl
                obtain ⟨vs2, _, hfv2, hrv2, hvl2, _⟩ := source_rel (P := P) hT hRd hx hb hsz
                obtain ⟨os2, _, hfo2, hro2, hol2, _⟩ := source_rel (P := P) hT hRd hs ha hsz
                -- the array that is made where there is no room
                have grow : ∀ (base : Option Addr) (cap : Nat), a = .slice base n cap → cap < n + m → ∀ (H1 : AH), Conc μ μ H H1 w w → H1.size = H.size →
                    H' = H1.push (.cells de.size false (old ++ new)) → v = .sl H.size 0 (n + m) →
                    ∃ v' μ' w', (Builtin.append_ ts ty #[a, b]).run P w = .ok v' w' ∧ Conc μ μ' H H' w w' ∧ VRel μ' v v' := by
                  intro base cap hae hcap H1 hC1 hs1 hH' hv
                  subst hae; subst hH'; subst hv
                  obtain ⟨z, hzs, hrun⟩ := append_run_grow (P := P) hT ht0 ht1 hd hdd hde hu hud ty (base := base) hl hfv2 hfo2 hcap h63 hby
                  have hge := grownCap_ge w (n + m) cap e
                  have hC2 := hC1.trans (conc_drew hC1.rel)
                  have hf1 : Free μ H1.size (H1.size + 1) := by rw [hs1]; exact hf.left (by show H.size + 1 ≤ H1.size + 1; omega)
                  have hC3 := conc_push hC2.rel hf1 de.size (old ++ new) (os2 ++ vs2 ++ (Builtin.zeroCells z.cells (grownCap w (n + m) cap e - (n + m))).toList).toArray e
                    (by simp [hol2, hvl2, hoo, hnl]) (by
                      intro i x hi
                      have hlt := (List.getElem?_eq_some_iff.1 hi).1
                      obtain ⟨y, hy, hr⟩ := VRels.get _ _ (VRels.append _ _ _ _ hro2 hrv2) i x hi
                      refine ⟨y, ?_, hr⟩
                      rw [List.getElem?_toArray, List.getElem?_append_left (by simp [hol2, hvl2]; simp [hoo, hnl] at hlt; omega)]
                      exact hy)
                  refine ⟨_, _, _, hrun, hC2.trans hC3, ?_⟩
                  simp only [VRel]
                  rw [hs1]
                  refine ⟨_, _, rfl, hge, .inr ⟨_, Mu.set_same _ _ _, by simp, ?_⟩⟩
                  simp only [Nat.zero_add, List.size_toArray, List.length_append, hol2, hvl2, Array.length_toList, size_zeroCells, hzs, ← Nat.add_mul]
                  exact Nat.mul_le_mul_right _ (by omega)
                split at h
                · rename_i hm
                  subst hm
                  have hss : v = s ∧ H' = H := by
                    cases s <;> simp at h <;> exact ⟨h.1.symm, h.2.symm⟩
                  obtain ⟨rfl, rfl⟩ := hss
                  have hnew : vs = [] := List.eq_nil_of_length_eq_zero (by simpa using hvl)
                  subst hnew
                  cases v with
                  | nilsl =>
                    simp only [VRel] at ha
                    subst ha
                    simp only [asource] at hs
                    cases hs
                    refine ⟨.slice none 0 0, μ, w, ?_, .refl hR, rfl⟩
                    rw [append_run_room (P := P) hT ht0 ht1 hd hdd hde hu hud ty hl hfv (by omega)]
                    simp
                  | sl b o n' =>
                    have ha' := ha
                    simp only [VRel] at ha'
                    obtain ⟨q, cap, rfl, hle, h0⟩ := ha'
                    have hn : n = n' := by
                      simp only [asource] at hs
                      split at hs
                      · split at hs
                        · cases hs; rfl
                        · cases hs
                      · cases hs
                    subst hn
                    refine ⟨.slice (some q) n cap, μ, w, ?_, .refl hR, ha⟩
                    rw [append_run_room (P := P) hT ht0 ht1 hd hdd hde hu hud ty hl hfv (by omega)]
                    simp [storeCells]
                  | str s => simp at h
                  | _ => simp [asource] at hs
                · rename_i hm
                  split at h
                  · cases h
                  · rename_i H1 hk
                    cases h
                    unfold AH.kill at hk
                    split at hk
                    · cases hk
                      simp only [VRel] at ha
                      simp only [asource] at hs
                      cases hs
                      exact grow none 0 ha (by omega) H (.refl hR) rfl rfl rfl
                    · rename_i bl o n'
                      split at hk
                      · rename_i eb xs hbl
                        cases hk
                        have hkc := conc_kill hR hbl
                        have ha' := ha
                        simp only [VRel] at ha'
                        obtain ⟨q, cap, hae, hle, h0⟩ := ha'
                        have ⟨hn, hes, hfit, hold⟩ : n = n' ∧ eb = de.size ∧ o + n * de.size ≤ xs.length ∧ old = (xs.drop o).take (n * de.size) := by
                          simp only [asource, hbl] at hs
                          split at hs
                          · rename_i hc
                            cases hs
                            exact ⟨rfl, hc.1, hc.2, rfl⟩
                          · cases hs
                        subst hn
                        by_cases hroom : n + m ≤ cap
                        · rcases h0 with h0 | ⟨p, hp, rfl, hcp⟩
                          · omega
                          · subst hae
                            obtain ⟨hpe, hpn, arr, t', fz, hh, has, hfz, hxs⟩ := hR.cells bl p eb false xs hp hbl
                            have hz := hfz rfl
                            subst hz
                            have hpe2 : p.e = de.size := hpe.trans hes
                            have hcap2 : p.d + o + (n + m) * de.size ≤ p.n := by
                              have : (n + m) * de.size ≤ cap * p.e := by rw [hpe2]; exact Nat.mul_le_mul_right _ hroom
                              omega
                            have hnm : (n + m) * de.size = n * de.size + m * de.size := Nat.add_mul _ _ _
                            have h1 : ∀ y ∈ vs, y.oneCell' = true := by
                              intro y hy
                              obtain ⟨i, hi⟩ := List.getElem?_of_mem hy
                              have hlt : i < new.length := by
                                have := (List.getElem?_eq_some_iff.1 hi).1
                                omega
                              obtain ⟨z, hz, hr⟩ := VRels.get _ _ hrv i new[i] (List.getElem?_eq_getElem hlt)
                              rw [hi] at hz; cases hz
                              exact one_oneCell hr (List.all_eq_true.1 hone _ (List.getElem_mem hlt))
                            have hst := run_storeCells_at P p.c (p.d + o + n * de.size) t' vs 0 arr w hh (by omega) h1
                            simp only [Nat.add_zero] at hst
                            have hwf : p.d + o + n * de.size + vs.length ≤ arr.toList.length := by simp; omega
                            have hC := conc_extend hR (hf.left (Nat.le_refl _)) hp hbl (o := o) (ys := old ++ new) (t := t')
                              (arr := (arr.toList.take (p.d + o + n * de.size) ++ vs ++ arr.toList.drop (p.d + o + n * de.size + vs.length)).toArray)
                              (w' := w.setRow p.c (arr.toList.take (p.d + o + n * de.size) ++ vs ++ arr.toList.drop (p.d + o + n * de.size + vs.length)).toArray)
                              (by rw [List.size_toArray, over_len _ _ _ hwf]; simpa using has) (by simp [hoo, hnl]; omega)
                              (by
                                intro i x hi
                                rw [List.getElem?_toArray, over_get _ _ _ _ hwf]
                                simp only [toList_get]
                                by_cases c1 : i < n * de.size
                                · rw [if_pos (by omega)]
                                  rw [List.getElem?_append_left (by omega), hold, List.getElem?_take_of_lt c1, List.getElem?_drop] at hi
                                  obtain ⟨y, hy, hr⟩ := hxs _ x hi
                                  exact ⟨y, by rw [Nat.add_assoc]; exact hy, hr⟩
                                · have hlt := (List.getElem?_eq_some_iff.1 hi).1
                                  simp only [List.length_append, hoo, hnl] at hlt
                                  rw [if_neg (by omega), if_pos (by omega)]
                                  rw [List.getElem?_append_right (by omega), hoo] at hi
                                  obtain ⟨y, hy, hr⟩ := VRels.get _ _ hrv _ x hi
                                  exact ⟨y, by rw [show p.d + o + i - (p.d + o + n * de.size) = i - n * de.size by omega]; exact hy, hr⟩)
                              (setRow_size _ _ _) rfl rfl rfl (setRow_world hh)
                            rw [hes] at hC
                            refine ⟨.slice (some ⟨p.c, p.d + o, none⟩) (n + m) cap, _, _, ?_, hC, ?_⟩
                            · rw [append_run_room (P := P) hT ht0 ht1 hd hdd hde hu hud ty hl hfv hroom]
                              simp only [Sem.run_bind, add_none, hst, Result.andThen_ok, Sem.run_pure]
                            · simp only [VRel]
                              refine ⟨⟨p.c, p.d + o, none⟩, cap, rfl, hroom, .inr ⟨⟨p.c, p.d + o, p.n, de.size⟩, Mu.set_same _ _ _, rfl, ?_⟩⟩
                              show p.d + o + 0 + cap * de.size ≤ p.n
                              rw [← hpe2]
                              exact hcp
                        · exact grow (some q) cap hae (by omega) _ hkc rfl rfl rfl
                      · cases hk
                    · cases hk
            · cases h
      · cases h

include hT in
theorem conv_rel (hR : Rel μ H w) {src dst : TypeId} {x v : AV} (h : aconv T H src dst x = some v) {a : Value} (ha : VRel μ x a) : ∃ v', (convert src dst a).run P w = .ok v' w ∧ VRel μ v v' := by
  unfold aconv at h
  split at h
  · rename_i ds dd hs hd
    split at h
    · rename_i k _ n hk
      cases h
      simp only [VRel] at ha
      subst ha
      refine ⟨.int k (k.wrap n), ?_, rfl⟩
      simp only [convert, Sem.run_bind, r_under hT hs, r_under hT hd, Result.andThen_ok, hk]
      cases hds : ds.d <;> simp [Conv.intToInt]
    · rename_i s hk
      cases h
      simp only [VRel] at ha
      subst ha
      refine ⟨.string s, ?_, rfl⟩
      simp only [convert, Sem.run_bind, r_under hT hs, r_under hT hd, Result.andThen_ok, hk]
      cases hds : ds.d <;> simp
    · rename_i b o n hk
      split at h
      · rename_i e hds
        split at h
        · rename_i de hde
          split at h
          · rename_i h8
            unfold asbytes at h
            split at h
            · rename_i m cs hc
              have ha' := ha
              simp only [VRel] at ha
              obtain ⟨q, cap, rfl, hle, h0⟩ := ha
              obtain ⟨vs, hlen, hfirst, hrel, hvl, _⟩ := source_rel hT hR hc ha' (by simp)
              cases hb : abytes cs with
              | none => rw [hb] at h; cases h
              | some ns =>
                rw [hb] at h
                cases h
                have hvs := abytes_rel hb hrel
                have hm : m = n := by
                  simp only [asource] at hc
                  split at hc
                  · split at hc
                    · cases hc; rfl
                    · cases hc
                  · cases hc
                subst hm
                refine ⟨.string (strN ns), ?_, rfl⟩
                rw [run_convert_bytes_string w src dst e (some q) m cap (by rw [(hT _ _ hs).1, hds]) (by rw [(hT _ _ hde).1, h8]) (by rw [(hT _ _ hd).1, hk])]
                rw [run_bytesToString w q m cap ns (by rw [← hvs]; simpa [Builtin.firstCells] using hfirst), fold_strN]
            · cases h
          · cases h
        · cases h
      · cases h
    · cases h
  · cases h

end
end Go.Proofs.Ytopbfmhajbjepaa
