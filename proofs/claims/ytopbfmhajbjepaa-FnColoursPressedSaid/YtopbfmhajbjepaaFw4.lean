/- The operations that make no block: what the machine does is what the abstract operation says. -/
import Derived.Test.YtopbfmhajbjepaaFw3
import Derived.Laws.AppendOwn
import Derived.Laws.CopyRow
namespace Go.Proofs.Ytopbfmhajbjepaa
open Go
set_option linter.unusedSectionVars false

theorem add_none (c d n : Nat) : (⟨c, d, none⟩ : Addr).add n = ⟨c, d + n, none⟩ := by unfold Addr.add; split <;> simp_all

theorem cell_at {w : World} {c : Nat} {arr : Array Value} {t : TypeId} {fz : Nat × Nat} (h : w.heap[c]? = some (.cells arr t fz)) (i : Nat) : w.cell? ⟨c, i, none⟩ = arr[i]? := by
  simp [World.cell?, h]

theorem VRel.none {μ : Mu} {x : AV} {v : Value} (h : VRel (fun _ => none) x v) : VRel μ x v := VRel.mono (fun b p hp => by cases hp) x v h
theorem VRels.none {μ : Mu} {x : List AV} {v : List Value} (h : VRels (fun _ => none) x v) : VRels μ x v := VRels.mono (fun b p hp => by cases hp) x v h

theorem aconst_rel (μ : Mu) : ∀ v : Value, VRel μ (aconst v) v := by
  intro v
  unfold aconst
  split <;> simp [VRel]

theorem one_oneCell {μ : Mu} {x : AV} {v : Value} (h : VRel μ x v) (h1 : x.one = true) : v.oneCell' = true := by
  cases x <;> simp only [AV.one] at h1 <;> first | cases h1 | skip
  all_goals simp only [VRel] at h
  all_goals first
    | (subst h; rfl)
    | (obtain ⟨p, _, rfl⟩ := h; rfl)
    | (obtain ⟨a, c, rfl, _⟩ := h; rfl)
    | (obtain ⟨p, rfl, _⟩ := h; rfl)

theorem cells_rel {μ : Mu} {x : AV} {v : Value} (h : VRel μ x v) (hk : x.known = true) : VRels μ x.cells v.cells.toList := by
  cases x with
  | agg cs => simp only [VRel] at h; obtain ⟨xs, rfl, hr⟩ := h; exact hr
  | undef => cases hk
  | tup _ => cases hk
  | ptr b o => have h' := h; simp only [VRel] at h'; obtain ⟨p, _, rfl⟩ := h'; exact ⟨_, _, rfl, h, rfl⟩
  | sl b o n => have h' := h; simp only [VRel] at h'; obtain ⟨a, c, rfl, _⟩ := h'; exact ⟨_, _, rfl, h, rfl⟩
  | map b => have h' := h; simp only [VRel] at h'; obtain ⟨p, _, rfl⟩ := h'; exact ⟨_, _, rfl, h, rfl⟩
  | fn f c => have h' := h; simp only [VRel] at h'; obtain ⟨p, rfl, _⟩ := h'; exact ⟨_, _, rfl, h, rfl⟩
  | iface t c => have h' := h; simp only [VRel] at h'; obtain ⟨p, rfl, _⟩ := h'; exact ⟨_, _, rfl, h, rfl⟩
  | _ => have h' := h; simp only [VRel] at h'; subst h'; exact ⟨_, _, rfl, h, rfl⟩

theorem ev_rel {μ : Mu} {tm : Tm} {tmps : Array Value} {dfs : List Deferred} (h : ∀ t, VRel μ (tm t) (tmps.getD t undef)) (x : Operand) : VRel μ (ev tm x) (Act.eval ⟨tmps, dfs⟩ x) := by
  cases x with
  | tmp t => exact h t
  | const v => exact aconst_rel μ v
  | global g => trivial
  | func f => exact ⟨#[], rfl, rfl⟩

section
variable {P : Program} {T : TT} (hT : ∀ t d, T t = some d → TDOK P t d) {μ : Mu} {H : AH} {w : World} (hR : Rel μ H w)
include hT

theorem r_under {t : TypeId} {d : TD} (h : T t = some d) (w : World) : (underlying t).run P w = .ok d.d w := run_underlying (hT t d h).1 w
theorem r_size {t : TypeId} {d : TD} (h : T t = some d) (w : World) : (sizeOf t).run P w = .ok d.size w := by
  obtain ⟨_, _, i, z, hi, hs, _⟩ := hT t d h
  simp [sizeOf, typeInfo, hi, hs]
theorem r_bytes {t : TypeId} {d : TD} (h : T t = some d) (w : World) : ∃ i, (typeInfo t).run P w = .ok i w ∧ i.bytes = d.bytes ∧ i.size = d.size := by
  obtain ⟨_, _, i, z, hi, hs, hb, _⟩ := hT t d h
  exact ⟨i, by simp [typeInfo, hi], hb, hs⟩
theorem r_zero {t : TypeId} {d : TD} (h : T t = some d) (w : World) : ∃ z, (zeroValue t).run P w = .ok z w ∧ VRels (fun _ => none) d.zero z.cells.toList ∧ VRel (fun _ => none) d.zv z := by
  obtain ⟨_, _, i, z, hi, hs, hb, hz, h1, h2, h3⟩ := hT t d h
  exact ⟨z, by simp [zeroValue, typeInfo, hi, hz], h1, h3⟩
theorem r_zlen {t : TypeId} {d : TD} (h : T t = some d) : d.zero.length = d.size := by
  obtain ⟨_, _, i, z, hi, hs, hb, hz, h1, h2, h3⟩ := hT t d h
  exact h2
theorem r_agg {t : TypeId} {d : TD} (h : T t = some d) (w : World) : (isAgg t).run P w = .ok d.agg w := by
  have hu := r_under hT h w
  have ha := (hT t d h).2.1
  simp only [isAgg, Sem.run_bind, hu, Result.andThen_ok]
  rw [ha]
  split <;> simp_all

include hR

theorem loadCells_rel {b : Nat} {p : Place} {e : Nat} {ro : Bool} {xs : List AV} (hp : μ b = some p) (hb : H.blk b = .cells e ro xs) (o n : Nat) (hn : o + n ≤ xs.length) :
    ∃ vs : List Value, (loadCells ⟨p.c, p.d + o, none⟩ n).run P w = .ok vs.toArray w ∧ VRels μ ((xs.drop o).take n) vs := by
  obtain ⟨_, _, arr, t, fz, hh, hs, _, hx⟩ := hR.cells b p e ro xs hp hb
  let vs : List Value := (List.range n).map fun j => arr.getD (p.d + o + j) undef
  have hg : ∀ j, j < n → arr[p.d + o + j]? = some (arr.getD (p.d + o + j) undef) := by
    intro j hj
    obtain ⟨v, hv, _⟩ := hx (o + j) xs[o + j] (by rw [List.getElem?_eq_getElem])
    rw [← Nat.add_assoc] at hv
    rw [hv]; simp [Array.getD_eq_getD_getElem?, hv]
  refine ⟨vs, ?_, VRels.of _ _ (by simp [vs]; omega) ?_⟩
  · rw [run_loadCells w _ n (fun j => arr.getD (p.d + o + j) undef) (fun j hj => by rw [add_none, cell_at hh]; exact hg j hj)]
  · intro i x hi
    rw [List.getElem?_take] at hi
    split at hi
    · rename_i hlt
      rw [List.getElem?_drop] at hi
      obtain ⟨v, hv, hr⟩ := hx (o + i) x hi
      rw [← Nat.add_assoc] at hv
      refine ⟨v, ?_, hr⟩
      simp [vs, List.getElem?_map, List.getElem?_range hlt, Array.getD_eq_getD_getElem?, hv]
    · cases hi

theorem load_rel {t : TypeId} {d : TD} (h : T t = some d) {b o : Nat} {v : AV} (hl : aload d H b o = some v) {a : Value} (ha : VRel μ (.ptr b o) a) :
    ∃ v', (Instr.loadAt t a).run P w = .ok v' w ∧ VRel μ v v' := by
  simp only [VRel] at ha
  obtain ⟨p, hp, rfl⟩ := ha
  unfold aload at hl
  split at hl
  · rename_i e ro xs hb
    simp only [Instr.loadAt, Instr.sureAddr, loadVar, Sem.run_bind, Sem.run_pure, Result.andThen_ok, r_agg hT h]
    split at hl
    · rename_i hg
      rw [hg]
      split at hl
      · rename_i hn
        cases hl
        obtain ⟨vs, hv, hr⟩ := loadCells_rel (P := P) hT hR hp hb o d.size hn
        simp only [if_true, Sem.run_bind, r_size hT h, Result.andThen_ok, hv, Sem.run_pure]
        exact ⟨_, rfl, _, rfl, by simpa using hr⟩
      · cases hl
    · rename_i hg
      obtain ⟨_, _, arr, t', fz, hh, hs, _, hx⟩ := hR.cells b p e ro xs hp hb
      obtain ⟨v', hv', hr⟩ := hx o v hl
      simp only [hg, Bool.false_eq_true, if_false]
      refine ⟨v', ?_, hr⟩
      simp [load, Sem.run, cell_at hh, hv']
  · cases hl

theorem fieldPlace_rel {f : Field} {d : TD} (h : T f.type = some d) (hs : d.size ≠ 0) (c o : Nat) :
    (fieldPlace ⟨c, o, none⟩ f).run P w = .ok ⟨c, o + f.offset, none⟩ w := by
  simp [fieldPlace, r_size hT h, hs, add_none]

theorem fieldAddr_rel {t : TypeId} {x v : AV} {f : Nat} (hl : afieldAddr T t x f = some v) {a : Value} (ha : VRel μ x a) :
    ∃ v', (Instr.fieldAt t a f).run P w = .ok v' w ∧ VRel μ v v' := by
  unfold afieldAddr at hl
  split at hl
  · rename_i d b o hd
    split at hl
    · rename_i fs hfs
      split at hl
      · rename_i fl hfl
        split at hl
        · rename_i df hdf
          split at hl
          · cases hl
          · rename_i hs
            cases hl
            simp only [VRel] at ha
            obtain ⟨p, hp, rfl⟩ := ha
            refine ⟨.pointer (some ⟨p.c, p.d + o + fl.offset, none⟩), ?_, p, hp, by rw [Nat.add_assoc]⟩
            simp [Instr.fieldAt, r_under hT hd, hfs, hfl, Instr.sureAddr, fieldPlace_rel hT hR hdf hs]
        · cases hl
      · cases hl
    · cases hl
  · cases hl

omit hR in
theorem part_rel {t : TypeId} {d : TD} (h : T t = some d) {cs : List AV} {xs : Array Value} (hx : VRels μ cs xs.toList) (off : Nat) {v : AV}
    (hv : (if d.agg then some (.agg ((cs.drop off).take d.size)) else cs[off]?) = some v) (w : World) : ∃ v', (part t xs off).run P w = .ok v' w ∧ VRel μ v v' := by
  simp only [part, Sem.run_bind, r_agg hT h, Result.andThen_ok]
  split at hv
  · rename_i hg
    cases hv
    simp only [hg, if_true, Sem.run_bind, r_size hT h, Result.andThen_ok, Sem.run_pure]
    refine ⟨_, rfl, _, rfl, ?_⟩
    have := VRels.take d.size _ _ (VRels.drop off _ _ hx)
    simpa [Array.toList_extract, List.extract_eq_take_drop] using this
  · rename_i hg
    obtain ⟨y, hy, hr⟩ := VRels.get _ _ hx off v hv
    simp only [hg, Bool.false_eq_true, if_false]
    refine ⟨y, ?_, hr⟩
    have : xs[off]? = some y := by simpa using hy
    simp [this]

theorem field_rel {t : TypeId} {x v : AV} {f : Nat} (hl : afield T t x f = some v) {a : Value} (ha : VRel μ x a) :
    ∃ v', (Instr.field t a f).run P w = .ok v' w ∧ VRel μ v v' := by
  unfold afield at hl
  split at hl
  · rename_i d cs hd
    split at hl
    · rename_i fs hfs
      split at hl
      · rename_i fl hfl
        split at hl
        · rename_i df hdf
          simp only [VRel] at ha
          obtain ⟨xs, rfl, hx⟩ := ha
          obtain ⟨v', hv', hr⟩ := part_rel (P := P) hT hdf hx fl.offset hl w
          refine ⟨v', ?_, hr⟩
          simp [Instr.field, r_under hT hd, hfs, hfl, asAgg, hv']
        · cases hl
      · cases hl
    · cases hl
  · cases hl

theorem indexAddr_rel {t : TypeId} {x i v : AV} (hl : aindexAddr T t x i = some v) {a j : Value} (ha : VRel μ x a) (hj : VRel μ i j) :
    ∃ v', (Instr.indexAt t a j).run P w = .ok v' w ∧ VRel μ v v' := by
  unfold aindexAddr at hl
  split at hl
  · rename_i d k i hd
    simp only [VRel] at hj
    subst hj
    split at hl
    · rename_i e b o n hde
      split at hl
      · rename_i de he
        split at hl
        · rename_i hi
          cases hl
          simp only [VRel] at ha
          obtain ⟨q, cap, rfl, hc, h0⟩ := ha
          rcases h0 with h0 | ⟨p, hp, rfl, hfit⟩
          · omega
          · refine ⟨.pointer (some ⟨p.c, p.d + o + i.toNat * de.size, none⟩), ?_, p, hp, by rw [Nat.add_assoc]⟩
            simp [Instr.indexAt, r_under hT hd, hde, asIntOf, r_size hT he, hi, add_none]
        · cases hl
      · cases hl
    · rename_i n e b o hde
      split at hl
      · rename_i de he
        split at hl
        · rename_i hi
          cases hl
          simp only [VRel] at ha
          obtain ⟨p, hp, rfl⟩ := ha
          refine ⟨.pointer (some ⟨p.c, p.d + o + i.toNat * de.size, none⟩), ?_, p, hp, by rw [Nat.add_assoc]⟩
          simp [Instr.indexAt, r_under hT hd, hde, asIntOf, r_size hT he, hi, add_none, Instr.sureAddr]
        · cases hl
      · cases hl
    · cases hl
  · cases hl

theorem index_rel {t : TypeId} {x i v : AV} (hl : aindex T t x i = some v) {a j : Value} (ha : VRel μ x a) (hj : VRel μ i j) :
    ∃ v', (Instr.index t a j).run P w = .ok v' w ∧ VRel μ v v' := by
  unfold aindex at hl
  split at hl
  · rename_i d k i hd
    simp only [VRel] at hj
    subst hj
    split at hl
    · rename_i s hde
      split at hl
      · rename_i hi
        split at hl
        · rename_i c hc
          cases hl
          simp only [VRel] at ha
          subst ha
          refine ⟨_, ?_, rfl⟩
          simp [Instr.index, r_under hT hd, hde, asIntOf, hi, hc]
        · cases hl
      · cases hl
    · rename_i n e cs hde
      split at hl
      · rename_i de he
        split at hl
        · rename_i hi
          simp only [VRel] at ha
          obtain ⟨xs, rfl, hx⟩ := ha
          obtain ⟨v', hv', hr⟩ := part_rel (P := P) hT he hx (i.toNat * de.size) hl w
          refine ⟨v', ?_, hr⟩
          simp [Instr.index, r_under hT hd, hde, asIntOf, hi, r_size hT he, hv']
        · cases hl
      · cases hl
    · cases hl
  · cases hl

omit hT hR in
theorem bound_rel {x : Option AV} {dflt y n : Nat} (h : abound x dflt y = some n) {v : Option Value} (hx : match x, v with | some a, some b => VRel μ a b | none, none => True | _, _ => False) (code : BoundsCode) (w : World)
    (y' : Nat) (hy : y ≤ y') : (match v with | some v => Instr.sliceBound v y' code | none => pure dflt).run P w = .ok n w := by
  cases x with
  | none =>
    cases v with
    | none => simp [abound] at h; subst h; rfl
    | some v => exact hx.elim
  | some a =>
    cases v with
    | none => exact hx.elim
    | some v =>
      have hx' : VRel μ a v := hx
      clear hx
      cases a with
      | int k i =>
        simp only [abound] at h
        split at h
        · rename_i hi
          cases h
          simp only [VRel] at hx'
          subst hx'
          simp [Instr.sliceBound, asIntOf, hi.1, show i ≤ (y' : Int) by omega]
        · cases h
      | _ => simp only [abound] at h; cases h

end

end Go.Proofs.Ytopbfmhajbjepaa
