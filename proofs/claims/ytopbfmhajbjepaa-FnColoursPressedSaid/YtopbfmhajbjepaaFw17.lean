/- From a walk over the abstract memory to a call in a world. -/
import Derived.Test.YtopbfmhajbjepaaFw16
import Derived.Below
namespace Go.Proofs.Ytopbfmhajbjepaa
open Go Go.RowKit
set_option linter.unusedSectionVars false
set_option linter.unusedSimpArgs false
set_option linter.unusedVariables false

def AH.empty : AH := ⟨0, fun _ => .dead, fun _ _ => rfl⟩

/-- Memory that came in: it is read alone, and nothing else is named. -/
structure Start (μ : Mu) (H : AH) (w : World) : Prop where
  rel : Rel μ H w
  free : ∀ b, H.size ≤ b → μ b = none
  ro : ∀ b, b < H.size → (H.blk b).isRo = true

theorem start_empty (w : World) : Start (fun _ => none) AH.empty w :=
  ⟨⟨fun b p h => by simp at h, fun b p e ro xs h => by simp at h, fun b p es h => by simp at h, fun b b' p p' _ _ h => by simp at h⟩, fun _ _ => rfl, fun b h => by simp [AH.empty] at h⟩

theorem Start.add {μ : Mu} {H : AH} {w : World} (h : Start μ H w) {c d e : Nat} {arr : Array Value} {t : TypeId} {fz : Nat × Nat} (hh : w.heap[c]? = some (.cells arr t fz)) {xs : List AV} (hfit : d + xs.length ≤ arr.size)
    (hx : ∀ (i : Nat) (x : AV), xs[i]? = some x → ∃ v : Value, arr[d + i]? = some v ∧ VRel μ x v) : Start (μ.set H.size ⟨c, d, arr.size, e⟩) (H.push (.cells e true xs)) w := by
  have hn : μ H.size = none := h.free _ (Nat.le_refl _)
  have hle := Mu.le_set ⟨c, d, arr.size, e⟩ hn
  have hc : c < w.heap.size := (Array.getElem?_eq_some_iff.1 hh).1
  have ro : ∀ b, b < H.size + 1 → ((H.push (.cells e true xs)).blk b).isRo = true := by
    intro b hb
    by_cases eb : b = H.size
    · subst eb; rw [AH.push_same]; rfl
    · rw [AH.push_ne _ _ eb]; exact h.ro b (by omega)
  refine ⟨⟨?_, ?_, ?_, ?_⟩, ?_, ro⟩
  · intro b p hp
    by_cases eb : b = H.size
    · subst eb; rw [Mu.set_same] at hp; cases hp; exact hc
    · rw [Mu.set_ne _ _ eb] at hp; exact h.rel.dom b p hp
  · intro b p e' ro' ys hp hb
    by_cases eb : b = H.size
    · subst eb
      rw [Mu.set_same] at hp; cases hp
      rw [AH.push_same] at hb; cases hb
      refine ⟨rfl, hfit, arr, t, fz, hh, rfl, fun h => (by cases h), ?_⟩
      intro i x hi
      obtain ⟨v, hv, hr⟩ := hx i x hi
      exact ⟨v, hv, VRel.mono hle _ _ hr⟩
    · rw [Mu.set_ne _ _ eb] at hp
      rw [AH.push_ne _ _ eb] at hb
      obtain ⟨h1, h2, arr', t', fz', h3, h4, h5, h6⟩ := h.rel.cells b p e' ro' ys hp hb
      refine ⟨h1, h2, arr', t', fz', h3, h4, h5, fun i x hi => ?_⟩
      obtain ⟨v, hv, hr⟩ := h6 i x hi
      exact ⟨v, hv, VRel.mono hle _ _ hr⟩
  · intro b p es hp hb
    by_cases eb : b = H.size
    · subst eb; rw [AH.push_same] at hb; cases hb
    · rw [Mu.set_ne _ _ eb] at hp
      rw [AH.push_ne _ _ eb] at hb
      obtain ⟨ents, cl, h1, h2, h3, h4⟩ := h.rel.maps b p es hp hb
      refine ⟨ents, cl, h1, h2, h3, fun i x hi => ?_⟩
      obtain ⟨y, hy, hk, hv⟩ := h4 i x hi
      exact ⟨y, hy, VRel.mono hle _ _ hk, VRel.mono hle _ _ hv⟩
  · intro b b' p p' hb hb' hp hp' hpc
    exact .inr ⟨ro b ((H.push _).lt hb), ro b' ((H.push _).lt hb')⟩
  · intro b hb
    rw [Mu.set_ne _ _ (by have : H.size + 1 ≤ b := hb; omega)]
    exact h.free b (by have : H.size + 1 ≤ b := hb; omega)

/-- A slice of numbers that came in. -/
theorem Start.ints {μ : Mu} {H : AH} {w : World} (h : Start μ H w) {k : IntKind} {a : Option Addr} {len cap : Nat} {zs : List Int}
    (hz : (a = none ∧ len = 0 ∧ cap = 0 ∧ zs = []) ∨ ∃ x, a = some x ∧ len ≤ cap ∧ zs.length = cap ∧ (∀ i, i < zs.length → w.cell? (x.add i) = some (.int k (zs.getD i 0)))) :
    ∃ μ' H' v, Start μ' H' w ∧ μ.le μ' ∧ H.size ≤ H'.size ∧ (∀ b, b < H.size → H'.blk b = H.blk b) ∧ VRel μ' v (.slice a len cap) ∧
      ((v = .nilsl ∧ (zs.take len).map (AV.int k) = []) ∨ ∃ b o n ro xs, v = .sl b o n ∧ H'.blk b = .cells 1 ro xs ∧ o + n * 1 ≤ xs.length ∧ (xs.drop o).take (n * 1) = (zs.take len).map (AV.int k)) := by
  rcases hz with ⟨rfl, rfl, rfl, rfl⟩ | ⟨x, rfl, hl, hzl, hc⟩
  · exact ⟨μ, H, .nilsl, h, fun _ _ h => h, Nat.le_refl _, fun _ _ => rfl, rfl, .inl ⟨rfl, by simp⟩⟩
  · by_cases h0 : cap = 0
    · subst h0
      have hl0 : len = 0 := by omega
      subst hl0
      have hb : (H.push (.cells 1 true [])).blk H.size = .cells 1 true [] := AH.push_same _ _
      have hst : Start μ (H.push (.cells 1 true [])) w := by
        refine ⟨⟨h.rel.dom, ?_, ?_, ?_⟩, fun b hb => h.free b (by have : H.size + 1 ≤ b := hb; omega), ?_⟩
        · intro b p e ro ys hp hb
          by_cases eb : b = H.size
          · subst eb; rw [h.free _ (Nat.le_refl _)] at hp; cases hp
          · rw [AH.push_ne _ _ eb] at hb; exact h.rel.cells b p e ro ys hp hb
        · intro b p es hp hb
          by_cases eb : b = H.size
          · subst eb; rw [h.free _ (Nat.le_refl _)] at hp; cases hp
          · rw [AH.push_ne _ _ eb] at hb; exact h.rel.maps b p es hp hb
        · intro b b' p p' hb hb' hp hp' hpc
          by_cases eb : b = H.size
          · subst eb; rw [h.free _ (Nat.le_refl _)] at hp; cases hp
          · by_cases eb' : b' = H.size
            · subst eb'; rw [h.free _ (Nat.le_refl _)] at hp'; cases hp'
            · rw [AH.push_ne _ _ eb] at hb ⊢; rw [AH.push_ne _ _ eb'] at hb' ⊢
              exact h.rel.inj b b' p p' hb hb' hp hp' hpc
        · intro b hb
          have hb' : b < H.size + 1 := hb
          by_cases eb : b = H.size
          · subst eb; rw [AH.push_same]; rfl
          · rw [AH.push_ne _ _ eb]; exact h.ro b (by omega)
      refine ⟨μ, _, .sl H.size 0 0, hst, fun _ _ h => h, Nat.le_succ _, fun b hb => AH.push_ne _ _ (by omega), ⟨x, 0, rfl, Nat.le_refl _, .inl rfl⟩, .inr ⟨_, 0, 0, true, [], rfl, hb, by simp, by simp⟩⟩
    · have hcell0 := hc 0 (by omega)
      obtain ⟨blk, off, spot⟩ := x
      have hsp : spot = none := by
        have : (⟨blk, off, spot⟩ : Addr).add 0 = ⟨blk, off, spot⟩ := by simp [Addr.add]
        rw [this] at hcell0
        unfold World.cell? at hcell0
        split at hcell0
        · split at hcell0
          · cases hcell0
          · rename_i hs; simpa using hs
        · cases hcell0
      subst hsp
      have hadd : ∀ i, (⟨blk, off, none⟩ : Addr).add i = ⟨blk, off + i, none⟩ := by intro i; unfold Addr.add; split <;> simp_all
      obtain ⟨arr, t, fz, hh⟩ : ∃ arr t fz, w.heap[blk]? = some (.cells arr t fz) := by
        rw [hadd] at hcell0
        unfold World.cell? at hcell0
        split at hcell0
        · rename_i c t fz hh; exact ⟨c, t, fz, hh⟩
        · cases hcell0
      have hcells : ∀ i, i < cap → arr[off + i]? = some (.int k (zs.getD i 0)) := by
        intro i hi
        have := hc i (by omega)
        rw [hadd] at this
        simpa [World.cell?, hh] using this
      have hsz : off + cap ≤ arr.size := by
        have := hcells (cap - 1) (by omega)
        have := (Array.getElem?_eq_some_iff.1 this).1
        omega
      have hst := h.add (e := 1) hh (xs := (zs.take len).map (AV.int k)) (d := off) (by simp; omega) (by
        intro i x hi
        simp only [List.getElem?_map, Option.map_eq_some_iff] at hi
        obtain ⟨z, hz, rfl⟩ := hi
        have hlt := (List.getElem?_eq_some_iff.1 hz).1
        simp at hlt
        refine ⟨_, hcells i (by omega), ?_⟩
        rw [List.getElem?_take_of_lt (by omega)] at hz
        simp [VRel, List.getD, hz])
      refine ⟨_, _, .sl H.size 0 len, hst, Mu.le_set _ (h.free _ (Nat.le_refl _)), Nat.le_succ _, fun b hb => AH.push_ne _ _ (by omega), ?_, .inr ⟨_, 0, len, true, _, rfl, AH.push_same _ _, by simp; omega, ?_⟩⟩
      · exact ⟨_, cap, rfl, hl, .inr ⟨_, Mu.set_same _ _ _, rfl, by simpa using hsz⟩⟩
      · rw [List.drop_zero, List.take_of_length_le (by simp; omega)]

/-- Nothing that came in is turned. -/
theorem below_of {μ μ' : Mu} {H H' : AH} {w w' : World} (h : Start μ H w) (hc : Conc μ μ' H H' w w') : Below w.heap.size w w' :=
  ⟨hc.os, hc.tape, hc.output, hc.wsz, fun k hk => hc.frame k hk fun b p hb _ _ _ => h.ro b hb⟩

theorem law_calls {P : Program} {T : TT} (hT : ∀ t d, T t = some d → TDOK P t d) {prims : PrimT} (hP : PrimOK P prims) (hm : P.follows .mixedOrders = true) {f : FuncId} {args : List AV} {vs : Array Value} {μ : Mu} {H : AH} {w : World}
    (hS : Start μ H w) (hV : VRels μ args vs.toList) (hE : Ev P T prims f args H fun v _ => v = .bool true) : Calls P f vs w fun e w' => e = .returned (.bool true) ∧ Below w.heap.size w w' := by
  obtain ⟨v, H', ⟨k, hk⟩, rfl⟩ := hE
  refine (callN_sim hT hP hm k f args H _ H' hk μ w vs hS.rel hV (fun i h1 _ => hS.free i h1)).mono ?_
  rintro e w' ⟨v', μ', rfl, hc, hv⟩
  simp only [VRel] at hv
  subst hv
  exact ⟨rfl, below_of hS hc⟩

end Go.Proofs.Ytopbfmhajbjepaa
