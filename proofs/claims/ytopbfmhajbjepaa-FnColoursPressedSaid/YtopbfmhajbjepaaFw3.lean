/- What becomes of the relation when memory grows, or a block of the call's own turns. -/
import Derived.Test.YtopbfmhajbjepaaFw2
namespace Go.Proofs.Ytopbfmhajbjepaa
open Go

def Mu.set (μ : Mu) (b : Nat) (p : Place) : Mu := fun i => if i = b then some p else μ i

theorem Mu.set_same (μ : Mu) (b : Nat) (p : Place) : μ.set b p b = some p := by simp [Mu.set]
theorem Mu.set_ne (μ : Mu) {b i : Nat} (p : Place) (h : i ≠ b) : μ.set b p i = μ i := by simp [Mu.set, h]
theorem Mu.le_set {μ : Mu} {b : Nat} (p : Place) (h : μ b = none) : μ.le (μ.set b p) := by
  intro i q hq
  by_cases e : i = b
  · subst e; rw [h] at hq; cases hq
  · rw [Mu.set_ne _ _ e]; exact hq

theorem ABlk.lt {μ : Mu} {H : AH} {w : World} (_ : Rel μ H w) {b : Nat} (hl : (H.blk b).live = true) : b < H.size := H.lt hl

theorem AH.push_size (H : AH) (x : ABlk) : (H.push x).size = H.size + 1 := rfl
theorem AH.push_same (H : AH) (x : ABlk) : (H.push x).blk H.size = x := by simp [AH.push]
theorem AH.push_ne (H : AH) (x : ABlk) {b : Nat} (h : b ≠ H.size) : (H.push x).blk b = H.blk b := by simp [AH.push, h]
theorem AH.put_size (H : AH) (b : Nat) (x : ABlk) : (H.put b x).size = H.size := rfl
theorem AH.put_same (H : AH) (b : Nat) (x : ABlk) (h : b < H.size) : (H.put b x).blk b = x := by simp [AH.put, h]
theorem AH.put_ne (H : AH) (b : Nat) (x : ABlk) {i : Nat} (h : i ≠ b) : (H.put b x).blk i = H.blk i := by simp [AH.put, h]

theorem Free.at {μ : Mu} {a b : Nat} (h : Free μ a b) (hb : a < b) : μ a = none := h a (Nat.le_refl _) hb

theorem heap_push (w : World) (o : Obj) (k : Nat) : (w.alloc o).heap[k]? = if k = w.heap.size then some o else w.heap[k]? := by
  show (w.heap.push o)[k]? = _
  rw [Array.getElem?_push]

/-- A new block of cells. -/
theorem conc_push {μ : Mu} {H : AH} {w : World} (h : Rel μ H w) (hf : Free μ H.size (H.size + 1)) (e : Nat) (xs : List AV) (arr : Array Value) (t : TypeId)
    (hl : xs.length ≤ arr.size) (hx : ∀ (i : Nat) (x : AV), xs[i]? = some x → ∃ v : Value, arr[i]? = some v ∧ VRel μ x v) :
    Conc μ (μ.set H.size ⟨w.heap.size, 0, arr.size, e⟩) H (H.push (.cells e false xs)) w (w.alloc (.cells arr t)) := by
  have hn : μ H.size = none := hf.at (by omega)
  have hle := Mu.le_set ⟨w.heap.size, 0, arr.size, e⟩ hn
  have hsz : (w.alloc (.cells arr t)).heap.size = w.heap.size + 1 := by simp
  refine ⟨⟨?_, ?_, ?_, ?_⟩, ?_, by simp [AH.push], by omega, rfl, rfl, rfl, ?_, ?_, ?_, ?_, ?_⟩
  · intro b p hp
    by_cases eb : b = H.size
    · subst eb; rw [Mu.set_same] at hp; cases hp; simp
    · rw [Mu.set_ne _ _ eb] at hp; have := h.dom b p hp; omega
  · intro b p e' ro ys hp hb
    by_cases eb : b = H.size
    · subst eb
      rw [Mu.set_same] at hp; cases hp
      rw [AH.push_same] at hb; cases hb
      refine ⟨rfl, by simpa using hl, arr, t, (0, 0), ?_, rfl, fun _ => rfl, ?_⟩
      · rw [heap_push, if_pos rfl]
      · intro i x hi
        obtain ⟨v, hv, hr⟩ := hx i x hi
        exact ⟨v, by simpa using hv, VRel.mono hle _ _ hr⟩
    · rw [Mu.set_ne _ _ eb] at hp
      rw [AH.push_ne _ _ eb] at hb
      obtain ⟨h1, h2, arr', t', fz, h3, h4, h5, h6⟩ := h.cells b p e' ro ys hp hb
      refine ⟨h1, h2, arr', t', fz, ?_, h4, h5, ?_⟩
      · rw [heap_push, if_neg (by have := h.dom b p hp; omega)]; exact h3
      · intro i x hi
        obtain ⟨v, hv, hr⟩ := h6 i x hi
        exact ⟨v, hv, VRel.mono hle _ _ hr⟩
  · intro b p es hp hb
    by_cases eb : b = H.size
    · subst eb; rw [AH.push_same] at hb; cases hb
    · rw [Mu.set_ne _ _ eb] at hp
      rw [AH.push_ne _ _ eb] at hb
      obtain ⟨ents, cl, h1, h2, h3, h4⟩ := h.maps b p es hp hb
      refine ⟨ents, cl, ?_, h2, h3, ?_⟩
      · rw [heap_push, if_neg (by have := h.dom b p hp; omega)]; exact h1
      · intro i x hi
        obtain ⟨y, hy, hk, hv⟩ := h4 i x hi
        exact ⟨y, hy, VRel.mono hle _ _ hk, VRel.mono hle _ _ hv⟩
  · intro b b' p p' hb hb' hp hp' hc
    by_cases eb : b = H.size
    · by_cases eb' : b' = H.size
      · exact .inl (eb.trans eb'.symm)
      · subst eb
        rw [Mu.set_same] at hp; cases hp
        rw [Mu.set_ne _ _ eb'] at hp'
        have h1 := h.dom b' p' hp'
        have h2 : w.heap.size = p'.c := hc
        omega
    · by_cases eb' : b' = H.size
      · subst eb'
        rw [Mu.set_same] at hp'; cases hp'
        rw [Mu.set_ne _ _ eb] at hp
        have h1 := h.dom b p hp
        have h2 : p.c = w.heap.size := hc
        omega
      · rw [Mu.set_ne _ _ eb] at hp
        rw [Mu.set_ne _ _ eb'] at hp'
        rw [AH.push_ne _ _ eb] at hb ⊢
        rw [AH.push_ne _ _ eb'] at hb' ⊢
        exact h.inj b b' p p' hb hb' hp hp' hc
  · intro b hb
    rw [AH.push_size] at hb
    exact Mu.set_ne _ _ (by omega)
  · intro b p h1 h2 hp
    rw [AH.push_size] at h2
    have : b = H.size := by omega
    subst this
    rw [Mu.set_same] at hp; cases hp
    exact .inl (Nat.le_refl _)
  · intro c hc _
    rw [heap_push, if_neg (by omega)]
  · intro b hb _; exact AH.push_ne _ _ (by omega)
  · intro b hb hd; rw [AH.push_ne _ _ (by omega)]; exact hd
  · intro b hb hd; rw [AH.push_ne _ _ (by omega)]; exact hd

/-- A block of the call's own turns in place. -/
theorem conc_put {μ : Mu} {H : AH} {w w' : World} (h : Rel μ H w) {b : Nat} {p : Place} {e : Nat} {xs ys : List AV} (hp : μ b = some p) (hb : H.blk b = .cells e false xs)
    (hl : ys.length = xs.length) {arr : Array Value} {t : TypeId} (ha : arr.size = p.n)
    (hx : ∀ (i : Nat) (x : AV), ys[i]? = some x → ∃ v : Value, arr[p.d + i]? = some v ∧ VRel μ x v)
    (hs : w'.heap.size = w.heap.size) (hos : w'.os = w.os) (htp : w'.tape = w.tape) (hout : w'.output = w.output)
    (hw : ∀ k, w'.heap[k]? = if k = p.c then some (.cells arr t (0, 0)) else w.heap[k]?) :
    Conc μ μ H (H.put b (.cells e false ys)) w w' := by
  have hbl : b < H.size := ABlk.lt h (by rw [hb]; rfl)
  have hro : (H.blk b).isRo = false := by rw [hb]; rfl
  refine ⟨⟨?_, ?_, ?_, ?_⟩, fun _ _ => rfl, Nat.le_refl _, by omega, hos, htp, hout, ?_, ?_, ?_, ?_, ?_⟩
  · intro b' p' hp'; rw [hs]; exact h.dom b' p' hp'
  · intro b' p' e' ro zs hp' hb'
    by_cases eb : b' = b
    · subst eb
      rw [hp] at hp'; cases hp'
      rw [AH.put_same _ _ _ hbl] at hb'; cases hb'
      obtain ⟨h1, h2, _⟩ := h.cells _ _ _ _ _ hp hb
      exact ⟨h1, by omega, arr, t, (0, 0), by rw [hw, if_pos rfl], ha, fun _ => rfl, hx⟩
    · rw [AH.put_ne _ _ _ eb] at hb'
      obtain ⟨h1, h2, arr', t', fz, h3, h4, h5, h6⟩ := h.cells b' p' e' ro zs hp' hb'
      refine ⟨h1, h2, arr', t', fz, ?_, h4, h5, h6⟩
      rw [hw, if_neg]
      · exact h3
      · intro ec
        rcases h.inj b' b p' p (by rw [hb']; rfl) (by rw [hb]; rfl) hp' hp ec with k | ⟨_, k⟩
        · exact eb k
        · rw [hro] at k; cases k
  · intro b' p' es hp' hb'
    by_cases eb : b' = b
    · subst eb; rw [AH.put_same _ _ _ hbl] at hb'; cases hb'
    · rw [AH.put_ne _ _ _ eb] at hb'
      obtain ⟨ents, cl, h1, h2⟩ := h.maps b' p' es hp' hb'
      refine ⟨ents, cl, ?_, h2⟩
      rw [hw, if_neg]
      · exact h1
      · intro ec
        rcases h.inj b' b p' p (by rw [hb']; rfl) (by rw [hb]; rfl) hp' hp ec with k | ⟨_, k⟩
        · exact eb k
        · rw [hro] at k; cases k
  · intro b1 b2 p1 p2 l1 l2 m1 m2 hc
    have live : ∀ i, ((H.put b (.cells e false ys)).blk i).live = true → (H.blk i).live = true := by
      intro i hi
      by_cases ei : i = b
      · subst ei; rw [hb]; rfl
      · rw [AH.put_ne _ _ _ ei] at hi; exact hi
    rcases h.inj b1 b2 p1 p2 (live _ l1) (live _ l2) m1 m2 hc with k | ⟨k1, k2⟩
    · exact .inl k
    · right
      have ne : ∀ i, (H.blk i).isRo = true → i ≠ b := by intro i hi e; subst e; rw [hro] at hi; cases hi
      rw [AH.put_ne _ _ _ (ne _ k1), AH.put_ne _ _ _ (ne _ k2)]; exact ⟨k1, k2⟩
  · intro b' p' h1 h2; rw [AH.put_size] at h2; omega
  · intro c hc hcb
    rw [hw, if_neg]
    intro ec
    have := hcb b p hbl hp ec.symm (by rw [hb]; rfl)
    rw [hro] at this; cases this
  · intro b' _ hr
    exact AH.put_ne _ _ _ (by intro e; subst e; rw [hro] at hr; cases hr)
  · intro b' _ hd
    rw [AH.put_ne _ _ _ (by intro e; subst e; rw [hb] at hd; cases hd)]; exact hd
  · intro b' _ hd
    by_cases eb : b' = b
    · subst eb; rw [AH.put_same _ _ _ hbl]; rfl
    · rw [AH.put_ne _ _ _ eb]; exact hd

/-- An array of the call's own is appended to in place: its block goes, a longer one lies in the same cells. -/
theorem conc_extend {μ : Mu} {H : AH} {w w' : World} (h : Rel μ H w) (hf : Free μ H.size (H.size + 1)) {b : Nat} {p : Place} {e o : Nat} {xs ys : List AV} (hp : μ b = some p)
    (hb : H.blk b = .cells e false xs) {arr : Array Value} {t : TypeId} (ha : arr.size = p.n) (hfit : p.d + o + ys.length ≤ p.n)
    (hx : ∀ (i : Nat) (x : AV), ys[i]? = some x → ∃ v : Value, arr[p.d + o + i]? = some v ∧ VRel μ x v)
    (hs : w'.heap.size = w.heap.size) (hos : w'.os = w.os) (htp : w'.tape = w.tape) (hout : w'.output = w.output)
    (hw : ∀ k, w'.heap[k]? = if k = p.c then some (.cells arr t (0, 0)) else w.heap[k]?) :
    Conc μ (μ.set H.size ⟨p.c, p.d + o, p.n, e⟩) H ((H.put b .dead).push (.cells e false ys)) w w' := by
  have hbl : b < H.size := ABlk.lt h (by rw [hb]; rfl)
  have hro : (H.blk b).isRo = false := by rw [hb]; rfl
  have hn : μ H.size = none := hf.at (by omega)
  have hle := Mu.le_set ⟨p.c, p.d + o, p.n, e⟩ hn
  have pushSame : ((H.put b .dead).push (.cells e false ys)).blk H.size = .cells e false ys := AH.push_same (H.put b .dead) _
  have pushNe : ∀ i, i ≠ H.size → ((H.put b .dead).push (.cells e false ys)).blk i = (H.put b .dead).blk i := fun i hi => AH.push_ne (H.put b .dead) _ hi
  have other : ∀ i q, μ i = some q → (H.blk i).live = true → i ≠ b → q.c ≠ p.c := by
    intro i q hq hl hi ec
    rcases h.inj i b q p hl (by rw [hb]; rfl) hq hp ec with k | ⟨_, k⟩
    · exact hi k
    · rw [hro] at k; cases k
  refine ⟨⟨?_, ?_, ?_, ?_⟩, ?_, by simp [AH.push, AH.put], by omega, hos, htp, hout, ?_, ?_, ?_, ?_, ?_⟩
  · intro b' p' hp'
    by_cases eb : b' = H.size
    · subst eb; rw [Mu.set_same] at hp'; cases hp'; rw [hs]; exact h.dom b p hp
    · rw [Mu.set_ne _ _ eb] at hp'; rw [hs]; exact h.dom b' p' hp'
  · intro b' p' e' ro zs hp' hb'
    by_cases eb : b' = H.size
    · subst eb
      rw [Mu.set_same] at hp'; cases hp'
      rw [pushSame] at hb'; cases hb'
      obtain ⟨h1, _⟩ := h.cells _ _ _ _ _ hp hb
      refine ⟨rfl, hfit, arr, t, (0, 0), by rw [hw, if_pos rfl], ha, fun _ => rfl, ?_⟩
      intro i x hi
      obtain ⟨v, hv, hr⟩ := hx i x hi
      exact ⟨v, hv, VRel.mono hle _ _ hr⟩
    · rw [pushNe _ eb] at hb'
      rw [Mu.set_ne _ _ eb] at hp'
      by_cases eb2 : b' = b
      · subst eb2; rw [AH.put_same _ _ _ hbl] at hb'; cases hb'
      · rw [AH.put_ne _ _ _ eb2] at hb'
        obtain ⟨h1, h2, arr', t', fz, h3, h4, h5, h6⟩ := h.cells b' p' e' ro zs hp' hb'
        refine ⟨h1, h2, arr', t', fz, ?_, h4, h5, ?_⟩
        · rw [hw, if_neg (other b' p' hp' (by rw [hb']; rfl) eb2)]; exact h3
        · intro i x hi
          obtain ⟨v, hv, hr⟩ := h6 i x hi
          exact ⟨v, hv, VRel.mono hle _ _ hr⟩
  · intro b' p' es hp' hb'
    by_cases eb : b' = H.size
    · subst eb; rw [pushSame] at hb'; cases hb'
    · rw [pushNe _ eb] at hb'
      rw [Mu.set_ne _ _ eb] at hp'
      by_cases eb2 : b' = b
      · subst eb2; rw [AH.put_same _ _ _ hbl] at hb'; cases hb'
      · rw [AH.put_ne _ _ _ eb2] at hb'
        obtain ⟨ents, cl, h1, h2, h3, h4⟩ := h.maps b' p' es hp' hb'
        refine ⟨ents, cl, ?_, h2, h3, ?_⟩
        · rw [hw, if_neg (other b' p' hp' (by rw [hb']; rfl) eb2)]; exact h1
        · intro i x hi
          obtain ⟨y, hy, hk, hv⟩ := h4 i x hi
          exact ⟨y, hy, VRel.mono hle _ _ hk, VRel.mono hle _ _ hv⟩
  · have old : ∀ i, i ≠ H.size → (((H.put b .dead).push (.cells e false ys)).blk i).live = true → (H.blk i).live = true ∧ i ≠ b ∧ ((H.put b .dead).push (.cells e false ys)).blk i = H.blk i := by
      intro i hi hl
      rw [pushNe _ hi] at hl
      by_cases ei : i = b
      · subst ei; rw [AH.put_same _ _ _ hbl] at hl; cases hl
      · rw [AH.put_ne _ _ _ ei] at hl
        exact ⟨hl, ei, by rw [pushNe _ hi, AH.put_ne _ _ _ ei]⟩
    intro b1 b2 p1 p2 l1 l2 m1 m2 hc
    by_cases e1 : b1 = H.size
    · by_cases e2 : b2 = H.size
      · exact .inl (e1.trans e2.symm)
      · obtain ⟨k1, k2, _⟩ := old b2 e2 l2
        subst e1
        rw [Mu.set_same] at m1; cases m1
        rw [Mu.set_ne _ _ e2] at m2
        exact absurd hc.symm (other b2 p2 m2 k1 k2)
    · by_cases e2 : b2 = H.size
      · obtain ⟨k1, k2, _⟩ := old b1 e1 l1
        subst e2
        rw [Mu.set_same] at m2; cases m2
        rw [Mu.set_ne _ _ e1] at m1
        exact absurd hc (other b1 p1 m1 k1 k2)
      · obtain ⟨k1, _, k3⟩ := old b1 e1 l1
        obtain ⟨j1, _, j3⟩ := old b2 e2 l2
        rw [Mu.set_ne _ _ e1] at m1
        rw [Mu.set_ne _ _ e2] at m2
        rw [k3, j3]
        exact h.inj b1 b2 p1 p2 k1 j1 m1 m2 hc
  · intro i hi
    have h1 : i < H.size ∨ H.size + 1 ≤ i := hi
    exact Mu.set_ne _ _ (by omega)
  · intro b' p' h1 h2 hp'
    have h3 : b' < H.size + 1 := h2
    have : b' = H.size := by omega
    subst this
    rw [Mu.set_same] at hp'; cases hp'
    exact .inr ⟨b, p, hbl, by rw [hb]; rfl, hro, by rw [pushNe _ (by omega), AH.put_same _ _ _ hbl]; rfl, hp, rfl⟩
  · intro c hc hcb
    rw [hw, if_neg]
    intro ec
    have := hcb b p hbl hp ec.symm (by rw [hb]; rfl)
    rw [hro] at this; cases this
  · intro b' hb' hr
    rw [pushNe _ (by omega), AH.put_ne _ _ _ (by intro e; subst e; rw [hro] at hr; cases hr)]
  · intro b' hb' hd
    rw [pushNe _ (by omega)]
    by_cases eb : b' = b
    · subst eb; rw [AH.put_same _ _ _ hbl]; rfl
    · rw [AH.put_ne _ _ _ eb]; exact hd
  · intro b' hb' hd
    rw [pushNe _ (by omega)]
    by_cases eb : b' = b
    · subst eb; rw [AH.put_same _ _ _ hbl]; rfl
    · rw [AH.put_ne _ _ _ eb]; exact hd

/-- An array that is no more used goes. -/
theorem conc_kill {μ : Mu} {H : AH} {w : World} (h : Rel μ H w) {b : Nat} {e : Nat} {xs : List AV} (hb : H.blk b = .cells e false xs) :
    Conc μ μ H (H.put b .dead) w w := by
  have hro : (H.blk b).isRo = false := by rw [hb]; rfl
  have hbl' : b < H.size := H.lt (by rw [hb]; rfl)
  have live : ∀ i, ((H.put b .dead).blk i).live = true → (H.put b .dead).blk i = H.blk i ∧ i ≠ b := by
    have hbl := hbl'
    intro i hi
    by_cases ei : i = b
    · subst ei; rw [AH.put_same _ _ _ hbl] at hi; cases hi
    · exact ⟨AH.put_ne _ _ _ ei, ei⟩
  have hbl : b < H.size := H.lt (by rw [hb]; rfl)
  refine ⟨⟨h.dom, ?_, ?_, ?_⟩, fun _ _ => rfl, Nat.le_refl _, Nat.le_refl _, rfl, rfl, rfl, ?_, fun _ _ _ => rfl, ?_, ?_, ?_⟩
  · intro b' p' e' ro zs hp' hb'
    obtain ⟨k, _⟩ := live b' (by rw [hb']; rfl)
    exact h.cells b' p' e' ro zs hp' (k ▸ hb')
  · intro b' p' es hp' hb'
    obtain ⟨k, _⟩ := live b' (by rw [hb']; rfl)
    exact h.maps b' p' es hp' (k ▸ hb')
  · intro b1 b2 p1 p2 l1 l2 m1 m2 hc
    obtain ⟨k1, _⟩ := live b1 l1
    obtain ⟨k2, _⟩ := live b2 l2
    rw [k1] at l1; rw [k2] at l2; rw [k1, k2]
    exact h.inj b1 b2 p1 p2 l1 l2 m1 m2 hc
  · intro b' p' h1 h2; rw [AH.put_size] at h2; omega
  · intro b' _ hr
    exact AH.put_ne _ _ _ (by intro e; subst e; rw [hro] at hr; cases hr)
  · intro b' _ hd
    by_cases ei : b' = b
    · subst ei; rw [AH.put_same _ _ _ hbl]; rfl
    · rw [AH.put_ne _ _ _ ei]; exact hd
  · intro b' _ hd
    by_cases ei : b' = b
    · subst ei; rw [AH.put_same _ _ _ hbl]; rfl
    · rw [AH.put_ne _ _ _ ei]; exact hd

end Go.Proofs.Ytopbfmhajbjepaa
