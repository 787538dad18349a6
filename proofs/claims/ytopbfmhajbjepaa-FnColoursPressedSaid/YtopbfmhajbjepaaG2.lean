/- Maps of sets, their polynomials, spans, and the least polynomial that takes a set to 0. -/
import Derived.Test.YtopbfmhajbjepaaG1
namespace Go.Proofs.Ytopbfmhajbjepaa

/-- The set to which a map takes a set. -/
def ap (m : List Nat) (s : Nat) : Nat := xs (fun i => m.getD i 0) s m.length
theorem ap_lin (m : List Nat) : Lin (ap m) := ⟨xs_zero _ _, fun a b => xs_xor _ a b _⟩
theorem ap_lt {m : List Nat} {n : Nat} (h : ∀ i < m.length, m.getD i 0 < 2 ^ n) (s : Nat) : ap m s < 2 ^ n := xs_lt fun k hk _ => h k hk
theorem ap_pow {m : List Nat} {i : Nat} (h : i < m.length) : ap m (2 ^ i) = m.getD i 0 := by
  unfold ap
  rw [← X_xs (Nat.pow_lt_pow_right (by omega) h), X_pow]

/-- A map, applied k times. -/
def pw (m : List Nat) (s : Nat) : Nat → Nat
  | 0 => s
  | k + 1 => ap m (pw m s k)
theorem pw_lin (m : List Nat) : ∀ k, Lin fun s => pw m s k
  | 0 => Lin.id
  | k + 1 => (ap_lin m).comp (pw_lin m k)
theorem pw_add (m : List Nat) (s k : Nat) : ∀ j, pw m (pw m s k) j = pw m s (j + k)
  | 0 => by simp [pw]
  | j + 1 => by rw [show j + 1 + k = (j + k) + 1 by omega]; simp only [pw]; rw [pw_add m s k j]
theorem pw_lt {m : List Nat} {n s : Nat} (h : ∀ i < m.length, m.getD i 0 < 2 ^ n) (hs : s < 2 ^ n) : ∀ k, pw m s k < 2 ^ n
  | 0 => hs
  | _ + 1 => ap_lt h _

/-- What the map of a polynomial makes of a set. -/
def pe (m : List Nat) (s p : Nat) : Nat := X (fun k => pw m s k) p
theorem pe_linP (m : List Nat) (s : Nat) : Lin (pe m s) := X_lin _
theorem pe_linS (m : List Nat) (p : Nat) : Lin fun s => pe m s p := Lin.ofX (fun k => pw_lin m k) p
theorem pe_pow (m : List Nat) (s k : Nat) : pe m s (2 ^ k) = pw m s k := X_pow _ k
theorem pe_one (m : List Nat) (s : Nat) : pe m s 1 = s := pe_pow m s 0
theorem pe_addP (m : List Nat) (s a b : Nat) : pe m s (a ^^^ b) = pe m s a ^^^ pe m s b := (pe_linP m s).add a b
theorem pe_addS (m : List Nat) (s t p : Nat) : pe m (s ^^^ t) p = pe m s p ^^^ pe m t p := (pe_linS m p).add s t
theorem pe_zeroS (m : List Nat) (p : Nat) : pe m 0 p = 0 := (pe_linS m p).zero
theorem pe_mul (m : List Nat) (s p q : Nat) : pe m s (pm p q) = pe m (pe m s q) p := by
  refine Lin.ext (h := fun p => pe m s (pm p q)) (g := fun p => pe m (pe m s q) p) ((pe_linP m s).comp (pm_linL q)) (pe_linP m _) (fun j => ?_) p
  refine Lin.ext (h := fun q => pe m s (pm (2 ^ j) q)) (g := fun q => pe m (pe m s q) (2 ^ j)) ((pe_linP m s).comp (pm_linR _)) ((pe_linS m _).comp (pe_linP m s)) (fun k => ?_) q
  simp only [pm_pow, ← Nat.pow_add, pe_pow, pw_add]
theorem pe_swap (m : List Nat) (s p q : Nat) : pe m (pe m s p) q = pe m (pe m s q) p := by rw [← pe_mul, ← pe_mul, pm_comm]
theorem pe_lt {m : List Nat} {n s : Nat} (h : ∀ i < m.length, m.getD i 0 < 2 ^ n) (hs : s < 2 ^ n) (p : Nat) : pe m s p < 2 ^ n := xs_lt fun k _ _ => pw_lt h hs k
theorem pe_two (m : List Nat) (s p : Nat) : ap m (pe m s p) = pe m s (p * 2) := by
  have e : ∀ s, ap m s = pe m s 2 := fun s => (pe_pow m s 1).symm
  rw [e, ← pe_mul, pm_comm]
  have := pm_pow p 1
  rw [Nat.pow_one] at this; rw [this]

/- Spans. -/
inductive Sp (l : List Nat) : Nat → Prop
  | zero : Sp l 0
  | add {x s : Nat} (h : x ∈ l) (k : Sp l s) : Sp l (x ^^^ s)
theorem Sp.mem {l : List Nat} {x : Nat} (h : x ∈ l) : Sp l x := by have := Sp.add h Sp.zero; rwa [Nat.xor_zero] at this
theorem Sp.xor {l : List Nat} {s t : Nat} (h : Sp l s) (k : Sp l t) : Sp l (s ^^^ t) := by
  induction h with
  | zero => rwa [Nat.zero_xor]
  | add h _ ih => rw [Nat.xor_assoc]; exact .add h ih
theorem Sp.lin {h : Nat → Nat} (L : Lin h) {l l' : List Nat} (k : ∀ x ∈ l, Sp l' (h x)) {s : Nat} (hs : Sp l s) : Sp l' (h s) := by
  induction hs with
  | zero => rw [L.zero]; exact .zero
  | add hx _ ih => rw [L.add]; exact (k _ hx).xor ih
theorem Sp.mono {l l' : List Nat} (k : ∀ x ∈ l, Sp l' x) {s : Nat} (hs : Sp l s) : Sp l' s := Sp.lin (h := fun s => s) Lin.id k hs
theorem Sp.sub {l l' : List Nat} (k : ∀ x ∈ l, x ∈ l') {s : Nat} (hs : Sp l s) : Sp l' s := hs.mono fun x hx => .mem (k x hx)
theorem Sp.kills {h : Nat → Nat} (L : Lin h) {l : List Nat} (k : ∀ x ∈ l, h x = 0) {s : Nat} (hs : Sp l s) : h s = 0 := by
  induction hs with
  | zero => exact L.zero
  | add hx _ ih => rw [L.add, k _ hx, ih]; rfl
theorem Sp.lt {l : List Nat} {n : Nat} (h : ∀ x ∈ l, x < 2 ^ n) {s : Nat} (hs : Sp l s) : s < 2 ^ n := by
  induction hs with
  | zero => exact Nat.two_pow_pos n
  | add hx _ ih => exact Nat.xor_lt_two_pow (h _ hx) ih
theorem Sp.nil {s : Nat} (h : Sp [] s) : s = 0 := by cases h with
  | zero => rfl
  | add h _ => simp at h
theorem Sp.cons {l : List Nat} {b s : Nat} (h : Sp (b :: l) s) : Sp l s ∨ Sp l (b ^^^ s) := by
  induction h with
  | zero => exact .inl .zero
  | @add x s hx _ ih =>
    rcases List.mem_cons.1 hx with e | e
    · subst e
      rcases ih with k | k
      · right; rwa [xor_can]
      · exact .inl k
    · rcases ih with k | k
      · exact .inl (.add e k)
      · right
        rw [show b ^^^ (x ^^^ s) = x ^^^ (b ^^^ s) by ac_rfl]
        exact .add e k
theorem Sp.xs {l : List Nat} {f : Nat → Nat} {s : Nat} : ∀ {K : Nat}, (∀ k < K, s.testBit k = true → Sp l (f k)) → Sp l (Go.Proofs.Ytopbfmhajbjepaa.xs f s K)
  | 0, _ => .zero
  | K + 1, h => by
    simp only [Go.Proofs.Ytopbfmhajbjepaa.xs]
    refine (Sp.xs fun k hk => h k (by omega)).xor ?_
    split
    · rename_i e; exact h K (by omega) e
    · exact .zero

theorem Deg.xor {b t d : Nat} (h : Deg b d) (k : t < 2 ^ d) : Deg (b ^^^ t) d := by
  have e : b = 2 ^ d ^^^ (b ^^^ 2 ^ d) := by rw [Nat.xor_comm b, xor_can]
  refine Deg.mk' (Nat.xor_lt_two_pow h.rest k) ?_
  rw [← Nat.xor_assoc, ← e]
theorem Deg.same {a b d : Nat} (h : Deg a d) (k : Deg b d) : a ^^^ b < 2 ^ d := by
  have := Nat.xor_lt_two_pow h.rest k.rest
  rwa [xor4, Nat.xor_self, Nat.xor_zero] at this

/-- Sets other than 0 whose greatest elements are different ones. -/
structure Ech (l : List Nat) : Prop where
  ne : ∀ x ∈ l, x ≠ 0
  tops : l.Pairwise fun a b => a.log2 ≠ b.log2
theorem Ech.nil : Ech [] := ⟨by simp, by simp⟩
theorem Ech.cons {b : Nat} {l : List Nat} (h : Ech l) (h0 : b ≠ 0) (ht : ∀ x ∈ l, x.log2 ≠ b.log2) : Ech (b :: l) :=
  ⟨by intro x hx; rcases List.mem_cons.1 hx with e | e; exact e ▸ h0; exact h.ne x e, List.pairwise_cons.2 ⟨fun x hx => (ht x hx).symm, h.tops⟩⟩
theorem Ech.tail {b : Nat} {l : List Nat} (h : Ech (b :: l)) : Ech l := ⟨fun x hx => h.ne x (List.mem_cons_of_mem _ hx), (List.pairwise_cons.1 h.tops).2⟩
theorem Ech.perm {l l' : List Nat} (h : Ech l) (p : l.Perm l') : Ech l' := ⟨fun x hx => h.ne x (p.mem_iff.2 hx), (p.pairwise_iff (fun h => h.symm)).1 h.tops⟩
theorem Ech.top : ∀ {l : List Nat}, Ech l → ∀ {s : Nat}, Sp l s → s ≠ 0 → ∃ b ∈ l, b.log2 = s.log2
  | [], _, s, hs, h0 => absurd hs.nil h0
  | b :: l, h, s, hs, h0 => by
    rcases hs.cons with k | k
    · obtain ⟨c, hc, e⟩ := Ech.top h.tail k h0
      exact ⟨c, List.mem_cons_of_mem _ hc, e⟩
    · have es : s = b ^^^ (b ^^^ s) := xor_can.symm
      generalize ht : b ^^^ s = t at *
      by_cases t0 : t = 0
      · subst t0; rw [Nat.xor_zero] at es; exact ⟨b, List.mem_cons_self, by rw [es]⟩
      · obtain ⟨c, hc, e⟩ := Ech.top h.tail k t0
        have hb := Deg.of (h.ne b List.mem_cons_self)
        have dt := Deg.of t0
        have hne : b.log2 ≠ c.log2 := (List.pairwise_cons.1 h.tops).1 c hc
        rcases Nat.lt_or_gt_of_ne hne with q | q
        · refine ⟨c, List.mem_cons_of_mem _ hc, ?_⟩
          have := dt.xor (t := b) (Nat.lt_of_lt_of_le hb.lt (Nat.pow_le_pow_right (by omega) (by omega)))
          rw [Nat.xor_comm, ← es] at this
          rw [this.log2, e]
        · refine ⟨b, List.mem_cons_self, ?_⟩
          have := hb.xor (t := t) (Nat.lt_of_lt_of_le dt.lt (Nat.pow_le_pow_right (by omega) (by omega)))
          rw [← es] at this
          rw [this.log2]
/-- What has none of the greatest elements at its top is no sum. -/
theorem Ech.out {l : List Nat} (h : Ech l) {s : Nat} (h0 : s ≠ 0) (ht : ∀ b ∈ l, b.log2 ≠ s.log2) : ¬ Sp l s := fun hs => by
  obtain ⟨b, hb, e⟩ := h.top hs h0
  exact ht b hb e
theorem nodup_len : ∀ {n : Nat} {l : List Nat}, l.Nodup → (∀ x ∈ l, x < n) → l.length ≤ n
  | 0, [], _, _ => by simp
  | 0, x :: l, _, h => by have := h x List.mem_cons_self; omega
  | n + 1, l, hd, h => by
    have h1 := nodup_len (n := n) (hd.erase n) fun x hx => by
      have := (hd.mem_erase_iff).1 hx
      have := h x this.2
      omega
    have := List.length_erase (a := n) (l := l)
    split at this <;> omega
theorem Ech.length {l : List Nat} {n : Nat} (h : Ech l) (hl : ∀ x ∈ l, x < 2 ^ n) : l.length ≤ n := by
  have hd : (l.map Nat.log2).Nodup := by
    rw [List.Nodup, List.pairwise_map]; exact h.tops
  have := nodup_len hd (n := n) fun x hx => by
    obtain ⟨y, hy, rfl⟩ := List.mem_map.1 hx
    exact (Nat.log2_lt (h.ne y hy)).2 (hl y hy)
  simpa using this
theorem Ech.reduce {l : List Nat} (h : ∀ x ∈ l, x ≠ 0) : ∀ (d s : Nat), s < 2 ^ d → ∃ u, Sp l u ∧ (s ^^^ u = 0 ∨ ∀ b ∈ l, b.log2 ≠ (s ^^^ u).log2)
  | 0, s, hs => ⟨0, .zero, .inl (by simp at hs; rw [hs]; rfl)⟩
  | d + 1, s, hs => by
    by_cases h0 : s = 0
    · exact ⟨0, .zero, .inl (by rw [h0]; rfl)⟩
    · by_cases hb : ∃ b ∈ l, b.log2 = s.log2
      · obtain ⟨b, hb, e⟩ := hb
        have d1 := Deg.of h0
        have d2 := Deg.of (h b hb)
        rw [e] at d2
        have hlt := d1.same d2
        have : s.log2 ≤ d := by have := (Nat.log2_lt h0).2 hs; omega
        obtain ⟨u, hu, k⟩ := Ech.reduce h d (s ^^^ b) (Nat.lt_of_lt_of_le hlt (Nat.pow_le_pow_right (by omega) this))
        refine ⟨b ^^^ u, .add hb hu, ?_⟩
        rwa [← Nat.xor_assoc]
      · exact ⟨0, .zero, .inr fun b hb' e => hb ⟨b, hb', by rwa [Nat.xor_zero] at e⟩⟩

/- The least polynomial that takes a set to 0. -/
structure IsMin (m : List Nat) (s p k : Nat) : Prop where
  deg : Deg p k
  zero : pe m s p = 0
  least : ∀ q < 2 ^ k, q ≠ 0 → pe m s q ≠ 0
theorem IsMin.dv {m : List Nat} {s p k a : Nat} (h : IsMin m s p k) (ha : pe m s a = 0) : Dv p a := by
  rw [Dv.mod h.deg]
  obtain ⟨e, r⟩ := pdm (p := a) h.deg
  by_cases z : pmod a p = 0
  · exact z
  · refine absurd ?_ (h.least _ r z)
    have : pe m s (pm p (pdiv a p)) = 0 := by rw [pm_comm, pe_mul, h.zero, pe_zeroS]
    have e2 := congrArg (pe m s) e
    rw [pe_addP, this, Nat.zero_xor, ha] at e2
    exact e2.symm
theorem IsMin.uniq {m : List Nat} {s p q k j : Nat} (h : IsMin m s p k) (g : IsMin m s q j) : p = q ∧ k = j := by
  have e : k = j := Nat.le_antisymm ((h.dv g.zero).le h.deg g.deg) ((g.dv h.zero).le g.deg h.deg)
  subst e
  refine ⟨?_, rfl⟩
  have lt := h.deg.same g.deg
  by_cases z : p ^^^ q = 0
  · exact xor_eq0.1 z
  · exact absurd (by rw [pe_addP, h.zero, g.zero]; rfl) (h.least _ lt z)

/-- Elimination of a set, what the map makes of it, and so on: k pairs of a sum and its polynomial. -/
structure El (m : List Nat) (s k : Nat) (ps : List (Nat × Nat)) : Prop where
  len : ps.length = k
  val : ∀ x ∈ ps, x.1 = pe m s x.2 ∧ x.2 < 2 ^ k
  ech : Ech (ps.map Prod.fst)
  spn : ∀ t < k, Sp (ps.map Prod.fst) (pw m s t)
  ind : ∀ q < 2 ^ k, q ≠ 0 → pe m s q ≠ 0
theorem El.start (m : List Nat) (s : Nat) : El m s 0 [] := ⟨rfl, by simp, Ech.nil, by simp, fun q hq h0 => by simp at hq; exact absurd hq h0⟩
theorem El.sp {m : List Nat} {s k : Nat} {ps : List (Nat × Nat)} (h : El m s k ps) {q : Nat} (hq : q < 2 ^ k) : Sp (ps.map Prod.fst) (pe m s q) := by
  unfold pe
  rw [X_xs hq]
  exact Sp.xs fun t ht _ => h.spn t ht
theorem El.next {m : List Nat} {s k : Nat} {l1 l2 : List (Nat × Nat)} (h : El m s k (l1 ++ l2)) {now p : Nat} (hp : Deg p k) (hv : now = pe m s p) (h0 : now ≠ 0)
    (ht : ∀ x ∈ l1 ++ l2, x.1.log2 ≠ now.log2) : El m s (k + 1) (l1 ++ (now, p) :: l2) := by
  have hk : 2 ^ k < 2 ^ (k + 1) := Nat.pow_lt_pow_right (by omega) (by omega)
  have hperm : (l1 ++ (now, p) :: l2).Perm ((now, p) :: (l1 ++ l2)) := List.perm_middle
  have ht' : ∀ b ∈ (l1 ++ l2).map Prod.fst, b.log2 ≠ now.log2 := fun b hb => by
    obtain ⟨x, hx, rfl⟩ := List.mem_map.1 hb; exact ht x hx
  have hech : Ech (now :: (l1 ++ l2).map Prod.fst) := h.ech.cons h0 ht'
  have hsub : ∀ x ∈ (l1 ++ l2).map Prod.fst, x ∈ (l1 ++ (now, p) :: l2).map Prod.fst := fun x hx => by
    obtain ⟨y, hy, rfl⟩ := List.mem_map.1 hx
    exact List.mem_map.2 ⟨y, hperm.mem_iff.2 (List.mem_cons_of_mem _ hy), rfl⟩
  refine ⟨?_, ?_, ?_, ?_, ?_⟩
  · have := h.len; simp at this ⊢; omega
  · intro x hx
    rcases List.mem_cons.1 (hperm.mem_iff.1 hx) with e | e
    · subst e; exact ⟨hv, hp.lt⟩
    · exact ⟨(h.val x e).1, Nat.lt_trans (h.val x e).2 hk⟩
  · exact hech.perm (by simpa using (hperm.map Prod.fst).symm)
  · intro t htk
    by_cases e : t = k
    · subst e
      have e1 : pw m s t = now ^^^ pe m s (2 ^ t ^^^ p) := by rw [hv, ← pe_addP, Nat.xor_comm (2 ^ t), xor_can, pe_pow]
      rw [e1]
      refine Sp.add (List.mem_map.2 ⟨(now, p), by simp, rfl⟩) ?_
      refine Sp.sub hsub (h.sp ?_)
      rw [Nat.xor_comm]; exact hp.rest
    · exact Sp.sub hsub (h.spn t (by omega))
  · intro q hq q0 hz
    by_cases e : q < 2 ^ k
    · exact h.ind q e q0 hz
    · have dq : Deg q k := by
        have := Deg.of q0
        have e1 : q.log2 = k := (Nat.log2_eq_iff q0).2 ⟨by omega, hq⟩
        rwa [e1] at this
      have := h.sp (dq.same hp)
      rw [pe_addP, hz, Nat.zero_xor, ← hv] at this
      exact h.ech.out h0 ht' this
theorem El.done {m : List Nat} {s k : Nat} {ps : List (Nat × Nat)} (h : El m s k ps) {p : Nat} (hp : Deg p k) (hv : pe m s p = 0) : IsMin m s p k := ⟨hp, hv, h.ind⟩
theorem El.le {m : List Nat} {s k n : Nat} {ps : List (Nat × Nat)} (h : El m s k ps) (hm : ∀ i < m.length, m.getD i 0 < 2 ^ n) (hs : s < 2 ^ n) : k ≤ n := by
  have := h.ech.length (n := n) fun x hx => by
    obtain ⟨y, hy, rfl⟩ := List.mem_map.1 hx
    rw [(h.val y hy).1]; exact pe_lt hm hs _
  rw [List.length_map, h.len] at this
  exact this

/- One polynomial of a degree of at most n takes all sets to 0. -/
structure Ch (m : List Nat) (n : Nat) (B : List Nat) (A : Nat) : Prop where
  ech : Ech B
  lt : ∀ x ∈ B, x < 2 ^ n
  inv : ∀ x ∈ B, Sp B (ap m x)
  ann : ∀ x ∈ B, pe m x A = 0
  deg : Deg A B.length
theorem Ch.start (m : List Nat) (n : Nat) : Ch m n [] 1 := ⟨Ech.nil, by simp, by simp, by simp, ⟨by simp, by simp⟩⟩
theorem Ch.step {m : List Nat} {n : Nat} (hm : ∀ i < m.length, m.getD i 0 < 2 ^ n) {B : List Nat} {A e : Nat} (h : Ch m n B A) (he : e < 2 ^ n) : ∀ (f j : Nat) (Bk : List Nat),
    n ≤ Bk.length + f → Ech Bk → (∀ x ∈ Bk, x < 2 ^ n) → (∀ x ∈ B, Sp Bk x) → Bk.length = B.length + j → (∀ t < j, Sp Bk (pw m e t)) → (∀ x ∈ Bk, ∃ w r, Sp B w ∧ r < 2 ^ j ∧ x = w ^^^ pe m e r) →
    ∃ B' A', Ch m n B' A' ∧ Sp B' e ∧ ∀ x ∈ B, Sp B' x := by
  intro f
  induction f with
  | zero =>
    intro j Bk hf hE hlt hB hlen hpw hdec
    by_cases hin : Sp Bk (pw m e j)
    · exact fin j Bk hE hlt hB hlen hpw hdec hin
    · obtain ⟨u, hu, k⟩ := Ech.reduce hE.ne n (pw m e j) (pw_lt hm he j)
      rcases k with k | k
      · exact absurd (xor_eq0.1 k ▸ hu) hin
      · have hne : pw m e j ^^^ u ≠ 0 := fun z => hin (xor_eq0.1 z ▸ hu)
        have := (hE.cons hne k).length (n := n) fun x hx => by
          rcases List.mem_cons.1 hx with q | q
          · subst q; exact Nat.xor_lt_two_pow (pw_lt hm he j) (Sp.lt hlt hu)
          · exact hlt x q
        simp at this; omega
  | succ f ih =>
    intro j Bk hf hE hlt hB hlen hpw hdec
    by_cases hin : Sp Bk (pw m e j)
    · exact fin j Bk hE hlt hB hlen hpw hdec hin
    · obtain ⟨u, hu, k⟩ := Ech.reduce hE.ne n (pw m e j) (pw_lt hm he j)
      rcases k with k | k
      · exact absurd (xor_eq0.1 k ▸ hu) hin
      · have hne : pw m e j ^^^ u ≠ 0 := fun z => hin (xor_eq0.1 z ▸ hu)
        have hk : 2 ^ j < 2 ^ (j + 1) := Nat.pow_lt_pow_right (by omega) (by omega)
        obtain ⟨w, r, hw, hr, eu⟩ := dec j Bk hdec hu
        refine ih (j + 1) ((pw m e j ^^^ u) :: Bk) (by simp; omega) (hE.cons hne k) ?_ (fun x hx => Sp.sub (fun y hy => List.mem_cons_of_mem _ hy) (hB x hx)) (by simp; omega) ?_ ?_
        · intro x hx
          rcases List.mem_cons.1 hx with q | q
          · subst q; exact Nat.xor_lt_two_pow (pw_lt hm he j) (Sp.lt hlt hu)
          · exact hlt x q
        · intro t ht
          by_cases q : t = j
          · subst q
            have := Sp.add (l := (pw m e t ^^^ u) :: Bk) List.mem_cons_self (Sp.sub (fun y hy => List.mem_cons_of_mem _ hy) hu)
            rwa [Nat.xor_assoc, Nat.xor_self, Nat.xor_zero] at this
          · exact Sp.sub (fun y hy => List.mem_cons_of_mem _ hy) (hpw t (by omega))
        · intro x hx
          rcases List.mem_cons.1 hx with q | q
          · subst q
            refine ⟨w, 2 ^ j ^^^ r, hw, Nat.xor_lt_two_pow hk (Nat.lt_trans hr hk), ?_⟩
            rw [pe_addP, pe_pow, eu]; ac_rfl
          · obtain ⟨w, r, a, b, c⟩ := hdec x q
            exact ⟨w, r, a, Nat.lt_trans b hk, c⟩
where
  dec (j : Nat) (Bk : List Nat) (hdec : ∀ x ∈ Bk, ∃ w r, Sp B w ∧ r < 2 ^ j ∧ x = w ^^^ pe m e r) {u : Nat} (hu : Sp Bk u) : ∃ w r, Sp B w ∧ r < 2 ^ j ∧ u = w ^^^ pe m e r := by
    induction hu with
    | zero => exact ⟨0, 0, .zero, Nat.two_pow_pos j, by rw [(pe_linP m e).zero]; rfl⟩
    | add hx _ ih =>
      obtain ⟨w, r, a, b, c⟩ := hdec _ hx
      obtain ⟨w', r', a', b', c'⟩ := ih
      exact ⟨w ^^^ w', r ^^^ r', a.xor a', Nat.xor_lt_two_pow b b', by rw [c, c', pe_addP, xor4]⟩
  fin (j : Nat) (Bk : List Nat) (hE : Ech Bk) (hlt : ∀ x ∈ Bk, x < 2 ^ n) (hB : ∀ x ∈ B, Sp Bk x) (hlen : Bk.length = B.length + j) (hpw : ∀ t < j, Sp Bk (pw m e t))
      (hdec : ∀ x ∈ Bk, ∃ w r, Sp B w ∧ r < 2 ^ j ∧ x = w ^^^ pe m e r) (hin : Sp Bk (pw m e j)) : ∃ B' A', Ch m n B' A' ∧ Sp B' e ∧ ∀ x ∈ B, Sp B' x := by
    obtain ⟨w0, r0, hw0, hr0, e0⟩ := dec j Bk hdec hin
    have hann : ∀ w, Sp B w → pe m w A = 0 := fun w hw => Sp.kills (pe_linS m A) h.ann hw
    have hr' : pe m e (2 ^ j ^^^ r0) = w0 := by rw [pe_addP, pe_pow, e0, Nat.xor_assoc, Nat.xor_self, Nat.xor_zero]
    have hpw' : ∀ t ≤ j, Sp Bk (pw m e t) := fun t ht => by
      by_cases q : t = j
      · rw [q]; exact hin
      · exact hpw t (by omega)
    refine ⟨Bk, pm A (2 ^ j ^^^ r0), ⟨hE, hlt, ?_, ?_, ?_⟩, ?_, hB⟩
    · intro x hx
      obtain ⟨w, r, a, b, c⟩ := hdec x hx
      rw [c, (ap_lin m).add]
      refine Sp.xor (Sp.mono hB (Sp.lin (ap_lin m) h.inv a)) ?_
      rw [pe_two]
      unfold pe
      rw [X_xs (K := j + 1) (by rw [Nat.pow_succ]; omega)]
      exact Sp.xs fun t ht _ => hpw' t (by omega)
    · intro x hx
      obtain ⟨w, r, a, b, c⟩ := hdec x hx
      rw [c, pe_addS, pm_comm, pe_mul, hann w a, pe_zeroS, Nat.zero_xor, pe_mul, pe_swap, pe_swap m e r, hr', pe_swap, hann w0 hw0, pe_zeroS] <;> skip
    · rw [hlen]; exact h.deg.pm (Deg.mk' hr0 rfl)
    · exact hpw' 0 (by omega)
theorem ann_all {m : List Nat} {n : Nat} (hm : ∀ i < m.length, m.getD i 0 < 2 ^ n) : ∃ A d, Deg A d ∧ d ≤ n ∧ ∀ i < n, pe m (2 ^ i) A = 0 := by
  have : ∀ k, k ≤ n → ∃ B A, Ch m n B A ∧ ∀ i < k, Sp B (2 ^ i) := by
    intro k
    induction k with
    | zero => exact fun _ => ⟨[], 1, Ch.start m n, by simp⟩
    | succ k ih =>
      intro hk
      obtain ⟨B, A, h, hi⟩ := ih (by omega)
      obtain ⟨B', A', h', he, hB⟩ := h.step hm (e := 2 ^ k) (Nat.pow_lt_pow_right (by omega) (by omega)) n 0 B (by omega) h.ech h.lt (fun x hx => .mem hx) rfl (by simp)
        fun x hx => ⟨x, 0, .mem hx, by simp, by rw [(pe_linP m _).zero, Nat.xor_zero]⟩
      refine ⟨B', A', h', fun i hi' => ?_⟩
      by_cases q : i = k
      · rw [q]; exact he
      · exact Sp.mono hB (hi i (by omega))
  obtain ⟨B, A, h, hi⟩ := this n (Nat.le_refl n)
  exact ⟨A, _, h.deg, h.ech.length h.lt, fun i hin => Sp.kills (pe_linS m A) h.ann (hi i hin)⟩

/-- The least polynomial. -/
noncomputable def lp (m : List Nat) (s : Nat) : Nat := open Classical in if h : ∃ p k, IsMin m s p k then Classical.choose h else 0
theorem lp_eq {m : List Nat} {s p k : Nat} (h : IsMin m s p k) : lp m s = p := by
  unfold lp
  have hh : ∃ p k, IsMin m s p k := ⟨p, k, h⟩
  rw [dif_pos hh]
  obtain ⟨j, hj⟩ := Classical.choose_spec hh
  exact (hj.uniq h).1
/-- The least common multiple of the least polynomials of the first i numbers. -/
noncomputable def mpl (m : List Nat) : Nat → Nat
  | 0 => 1
  | i + 1 => pm (mpl m i) (pdiv (lp m (2 ^ i)) (pg (mpl m i) (lp m (2 ^ i))))
theorem mpl_dv {m : List Nat} {n A : Nat} (hA : ∀ i < n, pe m (2 ^ i) A = 0) (hp : ∀ i < n, ∃ p k, IsMin m (2 ^ i) p k) (hA0 : A ≠ 0) : ∀ i ≤ n, Dv (mpl m i) A ∧ mpl m i ≠ 0
  | 0, _ => ⟨⟨A, (pm_oneL A).symm⟩, by simp [mpl]⟩
  | i + 1, hi => by
    obtain ⟨h1, h2⟩ := mpl_dv hA hp hA0 i (by omega)
    obtain ⟨p, k, h3⟩ := hp i (by omega)
    have h4 := lp_eq h3
    have h5 := lcm_dv h2 h1 (h3.dv (hA i (by omega)))
    simp only [mpl, h4]
    refine ⟨h5, ?_⟩
    intro z
    rw [z] at h5
    obtain ⟨a, ha⟩ := h5
    rw [pm_zeroL] at ha
    exact hA0 ha

end Go.Proofs.Ytopbfmhajbjepaa
