/- The operations that write or make memory. -/
import Derived.Test.YtopbfmhajbjepaaFw5
namespace Go.Proofs.Ytopbfmhajbjepaa
open Go
set_option linter.unusedSectionVars false

theorem toList_get (arr : Array Value) (i : Nat) : arr.toList[i]? = arr[i]? := by simp

theorem setRow_world {w : World} {c : Nat} {arr new : Array Value} {t : TypeId} (h : w.heap[c]? = some (.cells arr t (0, 0))) (k : Nat) :
    (w.setRow c new).heap[k]? = if k = c then some (.cells new t (0, 0)) else w.heap[k]? := by
  split
  · rename_i e; subst e; exact setRow_heap w k arr new t (0, 0) h
  · rename_i e; exact setRow_other w c k new e

theorem known_of_one {x : AV} (h : x.one = true) : x.known = true := by cases x <;> simp_all [AV.one, AV.known]
theorem cells_of_one {x : AV} (h : x.one = true) : x.cells = [x] := by cases x <;> simp_all [AV.one, AV.cells]

/-- What is written over the cells from place k on, read at i. -/
theorem over_get {α : Type} (xs vs : List α) (k i : Nat) (hf : k + vs.length ≤ xs.length) :
    (xs.take k ++ vs ++ xs.drop (k + vs.length))[i]? = if i < k then xs[i]? else if i < k + vs.length then vs[i - k]? else xs[i]? := by
  have hk : (xs.take k).length = k := by simp; omega
  by_cases h1 : i < k
  · rw [List.append_assoc, List.getElem?_append_left (by omega), List.getElem?_take_of_lt h1, if_pos h1]
  · rw [if_neg h1]
    by_cases h2 : i < k + vs.length
    · rw [if_pos h2, List.getElem?_append_left (by simp; omega), List.getElem?_append_right (by omega), hk]
    · rw [if_neg h2, List.getElem?_append_right (by simp; omega), List.getElem?_drop]
      congr 1
      simp; omega

theorem over_len {α : Type} (xs vs : List α) (k : Nat) (hf : k + vs.length ≤ xs.length) : (xs.take k ++ vs ++ xs.drop (k + vs.length)).length = xs.length := by
  simp; omega

theorem fold_set (l : List Value) : ∀ (k off : Nat) (cells : Array Value), off + k + l.length ≤ cells.size →
    ((l.zipIdx k).foldl (fun cs (x : Value × Nat) => cs.setIfInBounds (off + x.2) x.1) cells).toList = cells.toList.take (off + k) ++ l ++ cells.toList.drop (off + k + l.length) := by
  induction l with
  | nil => intro k off cells _; simp
  | cons v l ih =>
    intro k off cells hl
    simp only [List.length_cons] at hl
    rw [List.zipIdx_cons, List.foldl_cons, ih (k + 1) off _ (by simp; omega)]
    apply List.ext_getElem?
    intro i
    have hf1 : off + (k + 1) + l.length ≤ (cells.setIfInBounds (off + k) v).toList.length := by simp; omega
    have hf2 : off + k + (v :: l).length ≤ cells.toList.length := by simp; omega
    rw [over_get _ l _ i hf1, over_get _ (v :: l) _ i hf2]
    simp only [toList_get, Array.getElem?_setIfInBounds, List.length_cons]
    by_cases h1 : i < off + k
    · simp only [show i < off + (k + 1) by omega, h1, show ¬ off + k = i by omega, if_true, if_false]
    · by_cases h2 : i = off + k
      · subst h2
        simp only [show off + k < off + (k + 1) by omega, h1, show off + k < cells.size by omega, show off + k < off + k + (l.length + 1) by omega, if_true, if_false, Nat.sub_self]
        rfl
      · simp only [show ¬ i < off + (k + 1) by omega, h1, show ¬ off + k = i by omega, if_false]
        by_cases h3 : i < off + (k + 1) + l.length
        · simp only [h3, show i < off + k + (l.length + 1) by omega, if_true]
          rw [show i - (off + k) = (i - (off + (k + 1))) + 1 by omega, List.getElem?_cons_succ]
        · simp only [h3, show ¬ i < off + k + (l.length + 1) by omega, if_false]

section
variable {P : Program} {T : TT} (hT : ∀ t d, T t = some d → TDOK P t d) {μ : Mu} {H : AH} {w : World}

theorem fill_rel (place place' : Nat → Option (Nat × Nat)) (hp : ∀ i, place i = place' i) : ∀ (parts : List (Nat × AV)) (parts' : List (Nat × Value)) (cs cs' : List AV) (arr : Array Value),
    VRels μ cs arr.toList → parts'.length = parts.length → (∀ (i : Nat) (x : Nat × AV), parts[i]? = some x → ∃ y : Nat × Value, parts'[i]? = some y ∧ y.1 = x.1 ∧ VRel μ x.2 y.2) →
    afill place cs parts = some cs' → ∃ arr', Instr.fill place' arr parts' = some arr' ∧ VRels μ cs' arr'.toList
  | [], parts', cs, cs', arr, hr, hl, _, h => by
    have : parts' = [] := List.eq_nil_of_length_eq_zero (by simpa using hl)
    subst this
    simp only [afill] at h
    cases h
    exact ⟨arr, rfl, hr⟩
  | (i, v) :: rest, [], _, _, _, _, hl, _, _ => by simp at hl
  | (i, v) :: rest, (j, u) :: rest', cs, cs', arr, hr, hl, hx, h => by
    obtain ⟨y, hy, e1, hvu⟩ := hx 0 (i, v) rfl
    simp at hy; subst hy
    simp only at e1; subst e1
    simp only [afill] at h
    simp only [Instr.fill]
    rw [← hp j]
    cases hpl : place j with
    | none => rw [hpl] at h; cases h
    | some q =>
      obtain ⟨off, size⟩ := q
      rw [hpl] at h
      simp only at h
      split at h
      · cases h
      · rename_i hc
        have hk : v.known = true := by
          cases hv : v.known
          · exact absurd (.inr (.inr hv)) hc
          · rfl
        have hcr := cells_rel hvu hk
        have hcl := VRels.length _ _ hcr
        have hal := VRels.length _ _ hr
        have hlen : u.cells.size = v.cells.length := by simpa using hcl
        have has : arr.size = cs.length := by simpa using hal
        have hs1 : v.cells.length = size := by
          rcases Nat.decEq v.cells.length size with k | k
          · exact absurd (.inl k) hc
          · exact k
        have hs2 : off + v.cells.length ≤ cs.length := by
          rcases Nat.lt_or_ge cs.length (off + v.cells.length) with k | k
          · exact absurd (.inr (.inl k)) hc
          · exact k
        simp only []
        rw [if_neg (by rw [hlen, has]; simp; omega)]
        refine fill_rel place place' hp rest rest' _ _ _ ?_ (by simpa using hl) (fun i x hi => hx (i + 1) x (by simpa using hi)) h
        have hfold : (u.cells.zipIdx.foldl (fun cs (c, j) => cs.setIfInBounds (off + j) c) arr).toList = arr.toList.take off ++ u.cells.toList ++ arr.toList.drop (off + u.cells.toList.length) := by
          have := fold_set u.cells.toList 0 off arr (by simp; omega)
          simp only [Nat.add_zero] at this
          rw [← this, ← Array.foldl_toList, Array.toList_zipIdx]
        rw [hfold]
        unfold splice
        rw [show u.cells.toList.length = v.cells.length by simpa using hlen]
        exact VRels.append _ _ _ _ (VRels.append _ _ _ _ (VRels.take _ _ _ hr) hcr) (VRels.drop _ _ _ hr)

theorem parts_rel {tm : Tm} {ρ : Operand → Value} (hρ : ∀ x, VRel μ (ev tm x) (ρ x)) (parts : Array (Nat × Operand)) :
    let ps := parts.toList.map fun (i, x) => (i, ev tm x)
    let ps' := (parts.map fun (i, x) => (i, ρ x)).toList
    ps'.length = ps.length ∧ ∀ (i : Nat) (x : Nat × AV), ps[i]? = some x → ∃ y : Nat × Value, ps'[i]? = some y ∧ y.1 = x.1 ∧ VRel μ x.2 y.2 := by
  intro ps ps'
  refine ⟨by simp [ps, ps'], ?_⟩
  intro i x hi
  simp only [ps, List.getElem?_map, Option.map_eq_some_iff] at hi
  obtain ⟨⟨j, o⟩, hj, rfl⟩ := hi
  have hj' : parts[i]? = some (j, o) := by simpa using hj
  exact ⟨(j, ρ o), by simp [ps', hj'], rfl, hρ o⟩

include hT

theorem places_ok : ∀ (fs : List Field) (pl : List (Nat × Nat)), aplaces T fs = some pl → fs.mapM (fun f => (P.info? f.type).map fun i => (f.offset, i.size)) = some pl
  | [], pl, h => by simp [aplaces] at h; subst h; rfl
  | f :: fs, pl, h => by
    simp only [aplaces] at h
    split at h
    · rename_i d r hd hr
      cases h
      obtain ⟨_, _, i, z, hi, hs, _⟩ := hT _ d hd
      have ih := places_ok fs r hr
      simp [List.mapM_cons, hi, hs, ih]
    · cases h

theorem build_rel {tm : Tm} {ρ : Operand → Value} (hρ : ∀ x, VRel μ (ev tm x) (ρ x)) {t : TypeId} {parts : Array (Nat × Operand)} {v : AV}
    (h : abuild T t (parts.toList.map fun (i, x) => (i, ev tm x)) = some v) :
    ∃ v', (Instr.build t (parts.map fun (i, x) => (i, ρ x))).run P w = .ok v' w ∧ VRel μ v v' := by
  obtain ⟨hl, hx⟩ := parts_rel hρ parts
  unfold abuild at h
  split at h
  · rename_i d hd
    obtain ⟨hu, _, i, z, hi, hs, hb, hz, hz1, hz2, _⟩ := hT t d hd
    split at h
    · rename_i fs hfs
      split at h
      · rename_i pl hpl
        cases hf : afill (pl[·]?) d.zero (parts.toList.map fun (i, x) => (i, ev tm x)) with
        | none => simp [hf] at h
        | some cs =>
          simp [hf] at h
          subst h
          obtain ⟨arr', ha, hr⟩ := fill_rel (μ := μ) (pl[·]?) (pl.toArray[·]?) (by intro i; simp) _ _ _ _ z.cells (VRels.none hz1) hl hx hf
          refine ⟨.agg arr', run_build w t _ arr' ?_, arr', rfl, hr⟩
          rw [hfs] at hu
          simp only [Program.built, hi, hu, hz, places_ok hT _ _ hpl]
          exact ha
      · cases h
    · rename_i n e he
      split at h
      · rename_i de hde
        cases hf : afill (fun i => some (i * de.size, de.size)) d.zero (parts.toList.map fun (i, x) => (i, ev tm x)) with
        | none => simp [hf] at h
        | some cs =>
          simp [hf] at h
          subst h
          obtain ⟨_, _, ie, ze, hie, hse, _⟩ := hT _ de hde
          obtain ⟨arr', ha, hr⟩ := fill_rel (μ := μ) (fun i => some (i * de.size, de.size)) (fun i => some (i * ie.size, ie.size)) (by intro i; rw [hse]) _ _ _ _ z.cells (VRels.none hz1) hl hx hf
          refine ⟨.agg arr', run_build w t _ arr' ?_, arr', rfl, hr⟩
          rw [he] at hu
          simp only [Program.built, hi, hu, hz, hie]
          exact ha
      · cases h
    · cases h
  · cases h

theorem newVar_run (t : TypeId) (v : Value) : (newVar t v).run P w = .ok ⟨w.heap.size, 0, none⟩ (w.alloc (.cells v.cells t)) := by
  simp [newVar, newRow]

theorem push_rel (hR : Rel μ H w) (hf : Free μ H.size (H.size + 1)) {e : Nat} {xs : List AV} {arr : Array Value} {t : TypeId} (hx : VRels μ xs arr.toList) :
    Conc μ (μ.set H.size ⟨w.heap.size, 0, arr.size, e⟩) H (H.push (.cells e false xs)) w (w.alloc (.cells arr t)) :=
  conc_push hR hf e xs arr t (by have := VRels.length _ _ hx; simp at this; omega) fun i x hi => by
    obtain ⟨y, hy, hr⟩ := VRels.get _ _ hx i x hi
    exact ⟨y, by simpa using hy, hr⟩

theorem store_rel (hR : Rel μ H w) {t : TypeId} {d : TD} (h : T t = some d) {b o : Nat} {v : AV} {H' : AH} (hs : astore d H b o v = some H') {a u : Value}
    (ha : VRel μ (.ptr b o) a) (hu : VRel μ v u) : ∃ w', (Instr.storeAt t a u).run P w = .ok () w' ∧ Conc μ μ H H' w w' := by
  simp only [VRel] at ha
  obtain ⟨p, hp, rfl⟩ := ha
  -- the cells that are written
  have main : ∀ (e : Nat) (xs : List AV), H.blk b = .cells e false xs → v.known = true → v.cells.length = d.size → o + d.size ≤ xs.length → v.cells.all AV.one = true →
      ∃ w', (Instr.storeAt t (.pointer (some ⟨p.c, p.d + o, none⟩)) u).run P w = .ok () w' ∧ Conc μ μ H (H.put b (.cells e false (splice xs o v.cells))) w w' := by
    intro e xs hb hk hl hfit hone
    have hcr := cells_rel hu hk
    have hcl : u.cells.size = v.cells.length := by simpa using VRels.length _ _ hcr
    obtain ⟨_, hpn, arr, t', fz, hh, hsz, hfz, hx⟩ := hR.cells b p e false xs hp hb
    have hz := hfz rfl
    subst hz
    have h1 : ∀ y ∈ u.cells.toList, y.oneCell' = true := by
      intro y hy
      obtain ⟨i, hi⟩ := List.getElem?_of_mem hy
      have hlt : i < v.cells.length := by
        have := (List.getElem?_eq_some_iff.1 hi).1
        simp at this; omega
      obtain ⟨z, hz, hr⟩ := VRels.get _ _ hcr i v.cells[i] (List.getElem?_eq_getElem hlt)
      rw [hi] at hz; cases hz
      exact one_oneCell hr (List.all_eq_true.1 hone _ (List.getElem_mem hlt))
    have hst := run_storeCells_at P p.c (p.d + o) t' u.cells.toList 0 arr w hh (by simp; omega) h1
    simp only [Nat.add_zero] at hst
    refine ⟨_, ?_, conc_put hR hp hb (t := t') (arr := (arr.toList.take (p.d + o) ++ u.cells.toList ++ arr.toList.drop (p.d + o + u.cells.toList.length)).toArray) (by unfold splice; rw [over_len]; omega) ?_ ?_ (setRow_size _ _ _) rfl rfl rfl (setRow_world hh)⟩
    · simp only [Instr.storeAt, Instr.sureAddr, storeVar, Sem.run_bind, Sem.run_pure, Result.andThen_ok, r_size hT h]
      rw [if_neg (by rw [hcl, hl]; simp)]
      exact hst
    · rw [List.size_toArray, over_len _ _ _ (by simp; omega)]; simpa using hsz
    · intro i x hi
      unfold splice at hi
      rw [over_get _ _ _ _ (by omega)] at hi
      rw [List.getElem?_toArray, over_get _ _ _ _ (by simp; omega)]
      simp only [Array.length_toList, hcl, toList_get]
      split at hi
      · rename_i h2
        rw [if_pos (by omega)]
        exact hx i x hi
      · rename_i h2
        split at hi
        · rename_i h3
          rw [if_neg (by omega), if_pos (by omega)]
          obtain ⟨y, hy, hr⟩ := VRels.get _ _ hcr _ x hi
          exact ⟨y, by rw [show p.d + i - (p.d + o) = i - o by omega]; simpa using hy, hr⟩
        · rename_i h3
          rw [if_neg (by omega), if_neg (by omega)]
          exact hx i x hi
  unfold astore at hs
  split at hs
  · rename_i e xs hb
    split at hs
    · split at hs
      · rename_i hc
        cases hs
        obtain ⟨h1, h2, h3⟩ := hc
        by_cases hk : v.known = true
        · exact main e xs hb hk h1 h2 h3
        · exfalso
          cases v <;> simp_all [AV.known, AV.cells, AV.one]
      · cases hs
    · split at hs
      · rename_i hc
        cases hs
        obtain ⟨h1, h2, h3⟩ := hc
        have hvc := cells_of_one h1
        have := main e xs hb (known_of_one h1) (by rw [hvc, h3]; rfl) (by omega) (by rw [hvc]; simp [h1])
        rw [hvc] at this
        have hsp : splice xs o [v] = xs.set o v := by
          unfold splice
          apply List.ext_getElem?
          intro i
          rw [over_get _ _ _ _ (by simp; omega), List.getElem?_set]
          simp only [List.length_singleton]
          by_cases c1 : i < o
          · rw [if_pos c1, if_neg (by omega)]
          · by_cases c2 : i = o
            · subst c2; rw [if_neg c1, if_pos (by omega), if_pos rfl]; simp [h2]
            · rw [if_neg c1, if_neg (by omega), if_neg (by omega)]
        rw [hsp] at this
        exact this
      · cases hs
  · cases hs

end
end Go.Proofs.Ytopbfmhajbjepaa
