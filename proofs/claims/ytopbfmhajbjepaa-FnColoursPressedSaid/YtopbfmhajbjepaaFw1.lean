/- The abstract values and memory of the walks, and how they read in a world of the machine. -/
import Derived.Orders
import Derived.Tactics
import Derived.Below
import Derived.KernelRfl
namespace Go.Proofs.Ytopbfmhajbjepaa
open Go

/-- What a slot, or a cell of memory, holds: addresses are of the abstract memory. -/
inductive AV where
  | undef
  | bool (b : Bool)
  | int (k : IntKind) (n : Int)
  | str (s : ByteArray)
  | ptr (b o : Nat)
  | nilptr
  | sl (b o n : Nat)
  | nilsl
  | map (b : Nat)
  | nilmap
  | fn (f : FuncId) (cap : List AV)
  | nilfn
  | niliface
  | iface (t : TypeId) (v : AV)
  | agg (cs : List AV)
  | tup (vs : List AV)

/-- Where a block of the abstract memory lies: its block in the world, its first cell there, that block's cells, the cells of one element. -/
structure Place where
  c : Nat
  d : Nat
  n : Nat
  e : Nat

abbrev Mu := Nat → Option Place

mutual
def VRel (μ : Mu) : AV → Value → Prop
  | .undef, _ => True
  | .bool b, v => v = .bool b
  | .int k n, v => v = .int k n
  | .str s, v => v = .string s
  | .ptr b o, v => ∃ p, μ b = some p ∧ v = .pointer (some ⟨p.c, p.d + o, none⟩)
  | .nilptr, v => v = .pointer none
  | .sl b o n, v => ∃ a cap, v = .slice (some a) n cap ∧ n ≤ cap ∧ (cap = 0 ∨ ∃ p, μ b = some p ∧ a = ⟨p.c, p.d + o, none⟩ ∧ p.d + o + cap * p.e ≤ p.n)
  | .nilsl, v => v = .slice none 0 0
  | .map b, v => ∃ p, μ b = some p ∧ v = .map (some p.c)
  | .nilmap, v => v = .map none
  | .fn f cap, v => ∃ cs, v = .func (.func f) #[] cs ∧ VRels μ cap cs.toList
  | .nilfn, v => v = .nilFunc
  | .niliface, v => v = .nilIface
  | .iface t x, v => ∃ y, v = .iface t y ∧ VRel μ x y
  | .agg cs, v => ∃ xs, v = .agg xs ∧ VRels μ cs xs.toList
  | .tup vs, v => ∃ xs, v = .tuple xs ∧ VRels μ vs xs.toList
def VRels (μ : Mu) : List AV → List Value → Prop
  | [], ys => ys = []
  | x :: xs, ys => ∃ y r, ys = y :: r ∧ VRel μ x y ∧ VRels μ xs r
end

def Mu.le (μ μ' : Mu) : Prop := ∀ b p, μ b = some p → μ' b = some p

mutual
theorem VRel.mono {μ μ' : Mu} (h : μ.le μ') : ∀ (x : AV) (v : Value), VRel μ x v → VRel μ' x v
  | .undef, _, _ => trivial
  | .bool _, _, r => r
  | .int _ _, _, r => r
  | .str _, _, r => r
  | .ptr _ _, _, ⟨p, hp, r⟩ => ⟨p, h _ _ hp, r⟩
  | .nilptr, _, r => r
  | .sl _ _ _, _, ⟨a, c, r1, r2, r3⟩ => ⟨a, c, r1, r2, r3.imp id fun ⟨p, hp, r⟩ => ⟨p, h _ _ hp, r⟩⟩
  | .nilsl, _, r => r
  | .map _, _, ⟨p, hp, r⟩ => ⟨p, h _ _ hp, r⟩
  | .nilmap, _, r => r
  | .fn _ cap, _, ⟨cs, e, r⟩ => ⟨cs, e, VRels.mono h cap _ r⟩
  | .nilfn, _, r => r
  | .niliface, _, r => r
  | .iface _ x, _, ⟨y, e, r⟩ => ⟨y, e, VRel.mono h x y r⟩
  | .agg cs, _, ⟨xs, e, r⟩ => ⟨xs, e, VRels.mono h cs _ r⟩
  | .tup vs, _, ⟨xs, e, r⟩ => ⟨xs, e, VRels.mono h vs _ r⟩
theorem VRels.mono {μ μ' : Mu} (h : μ.le μ') : ∀ (x : List AV) (v : List Value), VRels μ x v → VRels μ' x v
  | [], _, r => r
  | x :: xs, _, ⟨y, r, e, h1, h2⟩ => ⟨y, r, e, VRel.mono h x y h1, VRels.mono h xs r h2⟩
end

theorem VRels.length {μ : Mu} : ∀ (xs : List AV) (ys : List Value), VRels μ xs ys → ys.length = xs.length
  | [], _, h => by rw [show _ = [] from h]; rfl
  | _ :: xs, _, ⟨_, r, e, _, h⟩ => by rw [e]; simp [VRels.length xs r h]

theorem VRels.get {μ : Mu} : ∀ (xs : List AV) (ys : List Value), VRels μ xs ys → ∀ (i : Nat) (x : AV), xs[i]? = some x → ∃ y : Value, ys[i]? = some y ∧ VRel μ x y
  | [], _, _, i, x, h => by simp at h
  | a :: xs, _, ⟨y, r, e, h1, h2⟩, i, x, h => by
    subst e
    cases i with
    | zero => simp at h; subst h; exact ⟨y, by simp, h1⟩
    | succ i => simp at h; obtain ⟨z, hz, hr⟩ := VRels.get xs r h2 i x h; exact ⟨z, by simpa using hz, hr⟩

theorem VRels.of {μ : Mu} : ∀ (xs : List AV) (ys : List Value), ys.length = xs.length → (∀ (i : Nat) (x : AV), xs[i]? = some x → ∃ y : Value, ys[i]? = some y ∧ VRel μ x y) → VRels μ xs ys
  | [], ys, hl, _ => by simpa [VRels] using hl
  | a :: xs, [], hl, _ => by simp at hl
  | a :: xs, y :: ys, hl, h => by
    refine ⟨y, ys, rfl, ?_, VRels.of xs ys (by simpa using hl) fun i x hi => ?_⟩
    · obtain ⟨z, hz, hr⟩ := h 0 a rfl; simp at hz; subst hz; exact hr
    · obtain ⟨z, hz, hr⟩ := h (i + 1) x (by simpa using hi); exact ⟨z, by simpa using hz, hr⟩

theorem VRels.append {μ : Mu} : ∀ (xs xs' : List AV) (ys ys' : List Value), VRels μ xs ys → VRels μ xs' ys' → VRels μ (xs ++ xs') (ys ++ ys')
  | [], _, _, _, h, h' => by rw [show _ = [] from h]; simpa using h'
  | x :: xs, xs', _, ys', ⟨y, r, e, h1, h2⟩, h' => by
    subst e; exact ⟨y, r ++ ys', rfl, h1, VRels.append xs xs' r ys' h2 h'⟩

theorem VRels.take {μ : Mu} : ∀ (n : Nat) (xs : List AV) (ys : List Value), VRels μ xs ys → VRels μ (xs.take n) (ys.take n)
  | 0, xs, ys, _ => by simp [VRels]
  | n + 1, [], _, h => by rw [show _ = [] from h]; simp [VRels]
  | n + 1, x :: xs, _, ⟨y, r, e, h1, h2⟩ => by subst e; exact ⟨y, r.take n, rfl, h1, VRels.take n xs r h2⟩

theorem VRels.drop {μ : Mu} : ∀ (n : Nat) (xs : List AV) (ys : List Value), VRels μ xs ys → VRels μ (xs.drop n) (ys.drop n)
  | 0, xs, ys, h => by simpa using h
  | n + 1, [], _, h => by rw [show _ = [] from h]; simp [VRels]
  | n + 1, x :: xs, _, ⟨y, r, e, _, h2⟩ => by subst e; simpa using VRels.drop n xs r h2

/-- A block of the abstract memory: gone; cells (the cells of one element; whether it is read alone); a map. -/
inductive ABlk where
  | dead
  | cells (e : Nat) (ro : Bool) (xs : List AV)
  | map (es : List (AV × AV))

structure AH where
  size : Nat
  blk : Nat → ABlk
  out : ∀ b, size ≤ b → blk b = .dead

def ABlk.isRo : ABlk → Bool
  | .cells _ ro _ => ro
  | _ => false
def ABlk.live : ABlk → Bool
  | .dead => false
  | _ => true

def AH.push (H : AH) (x : ABlk) : AH := ⟨H.size + 1, fun b => if b = H.size then x else H.blk b, fun b h => by rw [if_neg (by omega)]; exact H.out b (by omega)⟩
def AH.put (H : AH) (b : Nat) (x : ABlk) : AH := ⟨H.size, fun b' => if b' = b ∧ b' < H.size then x else H.blk b', fun b' h => by rw [if_neg (by omega)]; exact H.out b' h⟩
theorem AH.lt (H : AH) {b : Nat} (hl : (H.blk b).live = true) : b < H.size := by
  rcases Nat.lt_or_ge b H.size with k | k
  · exact k
  · rw [H.out b k] at hl; cases hl

/-- The abstract memory as it lies in a world. -/
structure Rel (μ : Mu) (H : AH) (w : World) : Prop where
  dom : ∀ b p, μ b = some p → p.c < w.heap.size
  cells : ∀ b p e ro xs, μ b = some p → H.blk b = .cells e ro xs →
    p.e = e ∧ p.d + xs.length ≤ p.n ∧ ∃ arr t fz, w.heap[p.c]? = some (.cells arr t fz) ∧ arr.size = p.n ∧ (ro = false → fz = (0, 0)) ∧
      ∀ (i : Nat) (x : AV), xs[i]? = some x → ∃ v : Value, arr[p.d + i]? = some v ∧ VRel μ x v
  maps : ∀ b p es, μ b = some p → H.blk b = .map es →
    ∃ ents clock, w.heap[p.c]? = some (.map ents clock) ∧ ents.toList.length = es.length ∧
      (∀ (e : MapEntry), e ∈ ents.toList → e.born < clock) ∧ 
      ∀ (i : Nat) (x : AV × AV), es[i]? = some x → ∃ y : MapEntry, ents.toList[i]? = some y ∧ VRel μ x.1 y.key ∧ VRel μ x.2 y.val
  inj : ∀ b b' p p', (H.blk b).live = true → (H.blk b').live = true → μ b = some p → μ b' = some p' → p.c = p'.c →
    b = b' ∨ ((H.blk b).isRo = true ∧ (H.blk b').isRo = true)

/-- What a step does: the memory grows, and nothing turns but what the abstract memory turns. -/
structure Conc (μ μ' : Mu) (H H' : AH) (w w' : World) : Prop where
  rel : Rel μ' H' w'
  ext : ∀ b, (b < H.size ∨ H'.size ≤ b) → μ' b = μ b
  size : H.size ≤ H'.size
  wsz : w.heap.size ≤ w'.heap.size
  os : w'.os = w.os
  tape : w'.tape = w.tape
  output : w'.output = w.output
  fresh : ∀ b p, H.size ≤ b → b < H'.size → μ' b = some p → w.heap.size ≤ p.c ∨
    ∃ b0 p0, b0 < H.size ∧ (H.blk b0).live = true ∧ (H.blk b0).isRo = false ∧ (H'.blk b0).live = false ∧ μ b0 = some p0 ∧ p0.c = p.c
  frame : ∀ c, c < w.heap.size → (∀ b p, b < H.size → μ b = some p → p.c = c → (H.blk b).live = true → (H.blk b).isRo = true) → w'.heap[c]? = w.heap[c]?
  ro : ∀ b, b < H.size → (H.blk b).isRo = true → H'.blk b = H.blk b
  dead : ∀ b, b < H.size → (H.blk b).live = false → (H'.blk b).live = false
  nro : ∀ b, b < H.size → (H.blk b).isRo = false → (H'.blk b).isRo = false

/-- No block from a to b is named. -/
def Free (μ : Mu) (a b : Nat) : Prop := ∀ i, a ≤ i → i < b → μ i = none

theorem Conc.refl {μ : Mu} {H : AH} {w : World} (h : Rel μ H w) : Conc μ μ H H w w :=
  ⟨h, fun _ _ => rfl, Nat.le_refl _, Nat.le_refl _, rfl, rfl, rfl, fun b p h1 h2 => by omega, fun _ _ _ => rfl, fun _ _ _ => rfl, fun _ _ h => h, fun _ _ h => h⟩

theorem Conc.le {μ μ' : Mu} {H H' : AH} {w w' : World} (h : Conc μ μ' H H' w w') (hf : Free μ H.size H'.size) : μ.le μ' := by
  intro b p hp
  by_cases hb : b < H.size ∨ H'.size ≤ b
  · rw [h.ext b hb]; exact hp
  · have := hf b (by omega) (by omega)
    rw [this] at hp; cases hp

theorem Free.left {μ : Mu} {a b c : Nat} (h : Free μ a c) (hb : b ≤ c) : Free μ a b := fun i h1 h2 => h i h1 (by omega)

theorem Conc.free {μ μ' : Mu} {H H' : AH} {w w' : World} (h : Conc μ μ' H H' w w') {c : Nat} (hf : Free μ H.size c) : Free μ' H'.size c := by
  intro i h1 h2
  rw [h.ext i (.inr h1)]
  exact hf i (Nat.le_trans h.size h1) h2

theorem Conc.trans {μ μ1 μ2 : Mu} {H H1 H2 : AH} {w w1 w2 : World} (h : Conc μ μ1 H H1 w w1) (k : Conc μ1 μ2 H1 H2 w1 w2) : Conc μ μ2 H H2 w w2 where
  rel := k.rel
  ext := fun b hb => by
    have h1 := h.size; have h2 := k.size
    rw [k.ext b (by omega), h.ext b (by omega)]
  size := Nat.le_trans h.size k.size
  wsz := Nat.le_trans h.wsz k.wsz
  os := k.os.trans h.os
  tape := k.tape.trans h.tape
  output := k.output.trans h.output
  fresh := fun b p h1 h2 hp => by
    by_cases hb : b < H1.size
    · rw [k.ext b (.inl hb)] at hp
      rcases h.fresh b p h1 hb hp with hc | ⟨b0, p0, a1, a2, a3, a4, a5, a6⟩
      · exact .inl hc
      · exact .inr ⟨b0, p0, a1, a2, a3, k.dead b0 (Nat.lt_of_lt_of_le a1 h.size) a4, a5, a6⟩
    · rcases k.fresh b p (by omega) h2 hp with hc | ⟨b0, p0, a1, a2, a3, a4, a5, a6⟩
      · exact .inl (Nat.le_trans h.wsz hc)
      · by_cases hb0 : b0 < H.size
        · rw [h.ext b0 (.inl hb0)] at a5
          have hl : (H.blk b0).live = true := by
            cases e : (H.blk b0).live
            · rw [h.dead b0 hb0 e] at a2; cases a2
            · rfl
          have hr : (H.blk b0).isRo = false := by
            cases e : (H.blk b0).isRo
            · rfl
            · rw [h.ro b0 hb0 e] at a3; rw [e] at a3; cases a3
          exact .inr ⟨b0, p0, hb0, hl, hr, a4, a5, a6⟩
        · rcases h.fresh b0 p0 (by omega) a1 a5 with hc | ⟨b1, p1, c1, c2, c3, c4, c5, c6⟩
          · exact .inl (a6 ▸ hc)
          · exact .inr ⟨b1, p1, c1, c2, c3, k.dead b1 (Nat.lt_of_lt_of_le c1 h.size) c4, c5, c6.trans a6⟩
  frame := fun c hc hb => by
    rw [← h.frame c hc hb]
    refine k.frame c (Nat.lt_of_lt_of_le hc h.wsz) fun b p h1 hp e hl => ?_
    by_cases hbs : b < H.size
    · rw [h.ext b (.inl hbs)] at hp
      have hl0 : (H.blk b).live = true := by
        cases q : (H.blk b).live
        · rw [h.dead b hbs q] at hl; cases hl
        · rfl
      have := hb b p hbs hp e hl0
      rw [h.ro b hbs this]; exact this
    · rcases h.fresh b p (by omega) h1 hp with hc' | ⟨b1, p1, c1, c2, c3, c4, c5, c6⟩
      · omega
      · have := hb b1 p1 c1 c5 (c6.trans e) c2
        rw [this] at c3; cases c3
  ro := fun b hb hr => by
    have h1 := h.ro b hb hr
    rw [k.ro b (Nat.lt_of_lt_of_le hb h.size) (by rw [h1]; exact hr), h1]
  dead := fun b hb hd => k.dead b (Nat.lt_of_lt_of_le hb h.size) (h.dead b hb hd)
  nro := fun b hb hd => k.nro b (Nat.lt_of_lt_of_le hb h.size) (h.nro b hb hd)

end Go.Proofs.Ytopbfmhajbjepaa
