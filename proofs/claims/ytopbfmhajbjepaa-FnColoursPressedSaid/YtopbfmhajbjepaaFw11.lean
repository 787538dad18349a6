/- A region that draws its order: whatever order the edges allow, the end is that of the text's order. -/
import Derived.Test.YtopbfmhajbjepaaFw10
namespace Go.Proofs.Ytopbfmhajbjepaa
open Go
set_option linter.unusedSectionVars false
set_option linter.unusedSimpArgs false
set_option linter.unusedVariables false

def edgeMask (acc : Array Nat) : List Edge → Nat
  | [] => 0
  | e :: es => if Region.binds .any e then (2 ^ e.on ||| acc.getD e.on 0) ||| edgeMask acc es else edgeMask acc es
def masks : List Oper → Array Nat → Array Nat
  | [], acc => acc
  | o :: r, acc => masks r (acc.push (edgeMask acc o.after.toList))
def befores (ops : Array Oper) : Array Nat := masks ops.toList #[]
/-- i stands before j. -/
def ordered (b : Array Nat) (i j : Nat) : Bool := (b.getD j 0).testBit i

/-- Operations that touch one slot stand in order, and edges lead back. -/
def regOK (ops : Array Oper) : Bool :=
  let b := befores ops
  (List.range ops.size).all fun j =>
    (match ops[j]? with | some o => o.after.toList.all fun e => !Region.binds .any e || decide (e.on < j) | none => true) &&
    (List.range j).all fun i => (match ops[i]?, ops[j]? with | some x, some y => Oper.apart ops x y | _, _ => true) || ordered b i j

/-- Operations on slots alone. -/
def floats : Op → Bool
  | .move _ | .assign _ | .extract _ _ | .pick _ _ _ | .build _ _ | .nilCheck _ | .binOp _ _ _ _ _ | .unOp _ _ _ | .fieldAddr _ _ _ | .field _ _ _ | .indexAddr _ _ _ | .index _ _ _ => true
  | _ => false
def flt (ops : Array Oper) (i : Nat) : Bool := match ops[i]? with | some o => floats o.op | none => false
theorem floats_spec {T : TT} {C : CT} {tm : Tm} {H H1 : AH} {op : Op} {v : AV} (hf : floats op = true) (h : AOp T C tm H op v H1) : H1 = H ∧ ∀ H', AOp T C tm H' op v H' := by
  cases op <;> simp [floats] at hf <;> simp only [AOp, aop] at h ⊢
  case move => simp at h ⊢; exact ⟨h.2.symm, fun _ => h.1⟩
  case assign => simp at h ⊢; exact ⟨h.2.symm, fun _ => h.1⟩
  case pick x a b =>
    generalize ev tm x = y at h ⊢
    cases y <;> simp at h ⊢
    exact ⟨h.2.symm, fun _ => h.1⟩
  case nilCheck x =>
    generalize ev tm x = y at h ⊢
    cases y <;> simp at h ⊢
    exact ⟨h.2.symm, fun _ => h.1⟩
  case extract x j =>
    generalize ev tm x = y at h ⊢
    cases y <;> simp at h ⊢
    obtain ⟨x, h1, h2, h3⟩ := h; exact ⟨h3.symm, fun _ => by rw [h1, h2]⟩
  all_goals
    simp only [Option.map_eq_some_iff, Prod.mk.injEq] at h ⊢
    obtain ⟨a, h1, h2, h3⟩ := h
    exact ⟨h3.symm, fun _ => ⟨a, h1, h2, trivial⟩⟩

/-- What may stand anywhere: an operation on slots alone, or one of those that are independent. -/
def fli (ops : Array Oper) (ind : List Nat) (i : Nat) : Bool := flt ops i || ind.contains i
/-- An operation stands in order with all others. -/
def totOK (ops : Array Oper) (ind : List Nat) (i : Nat) : Bool :=
  let b := befores ops
  (List.range ops.size).all fun j => j == i || fli ops ind j || (if j < i then ordered b j i else ordered b i j)

def Down (ops : Array Oper) (L : Nat → Bool) : Prop := ∀ j o, ops[j]? = some o → L j = true → ∀ e ∈ o.after, Region.binds .any e = true → L e.on = true

theorem edgeMask_bit {acc : Array Nat} {L : Nat → Bool} (hacc : ∀ j i, L j = true → (acc.getD j 0).testBit i = true → L i = true) :
    ∀ (es : List Edge) (i : Nat), (∀ e ∈ es, Region.binds .any e = true → L e.on = true) → (edgeMask acc es).testBit i = true → L i = true
  | [], i, _, h => by simp [edgeMask] at h
  | e :: es, i, hes, h => by
    unfold edgeMask at h
    split at h
    · rename_i hb
      have hL := hes e (by simp) hb
      simp only [Nat.testBit_or, Bool.or_eq_true] at h
      rcases h with (h | h) | h
      · rw [Nat.testBit_two_pow] at h
        have : e.on = i := by simpa using h
        rw [← this]; exact hL
      · exact hacc _ _ hL h
      · exact edgeMask_bit hacc es i (fun e' he => hes e' (by simp [he])) h
    · exact edgeMask_bit hacc es i (fun e' he => hes e' (by simp [he])) h

theorem masks_spec {ops : Array Oper} {L : Nat → Bool} (hd : Down ops L) : ∀ (l pre : List Oper) (acc : Array Nat), ops.toList = pre ++ l → acc.size = pre.length →
    (∀ j i, L j = true → (acc.getD j 0).testBit i = true → L i = true) → ∀ j i, L j = true → ((masks l acc).getD j 0).testBit i = true → L i = true
  | [], pre, acc, _, _, hacc => hacc
  | o :: r, pre, acc, ho, hs, hacc => by
    unfold masks
    refine masks_spec hd r (pre ++ [o]) _ (by rw [ho]; simp) (by simp [hs]) ?_
    intro j i hj hb
    rw [Array.getD_eq_getD_getElem?, Array.getElem?_push] at hb
    split at hb
    · rename_i e
      subst e
      refine edgeMask_bit hacc o.after.toList i (fun e he hbi => ?_) (by simpa using hb)
      refine hd acc.size o ?_ hj e (by simpa using he) hbi
      have : ops.toList[pre.length]? = some o := by rw [ho]; simp
      rw [hs]; simpa using this
    · exact hacc j i hj (by rw [Array.getD_eq_getD_getElem?]; exact hb)

theorem ordered_down {ops : Array Oper} {L : Nat → Bool} (hd : Down ops L) {i j : Nat} (hj : L j = true) (h : ordered (befores ops) i j = true) : L i = true :=
  masks_spec hd ops.toList [] #[] (by simp) rfl (fun j i _ hb => by simp at hb) j i hj h

/-- What stands before an operation that is ready is listed. -/
theorem ordered_ready {ops : Array Oper} {L : Nat → Bool} (hd : Down ops L) {i j : Nat} {o : Oper} (ho : ops[j]? = some o) (hr : ∀ e ∈ o.after, Region.binds .any e = true → L e.on = true)
    (hij : i ≠ j) (h : ordered (befores ops) i j = true) : L i = true := by
  have hd' : Down ops (fun k => L k || k == j) := by
    intro k o' hk hL e he hb
    by_cases e' : k = j
    · subst e'; rw [ho] at hk; cases hk; simp [hr e he hb]
    · have : L k = true := by simpa [e'] using hL
      simp [hd k o' hk this e he hb]
  have := ordered_down hd' (i := i) (j := j) (by simp) h
  simpa [hij] using this

theorem regOK_spec {ops : Array Oper} (h : regOK ops = true) {i j : Nat} {x y : Oper} (hij : i < j) (hx : ops[i]? = some x) (hy : ops[j]? = some y) : Oper.apart ops x y = true ∨ ordered (befores ops) i j = true := by
  unfold regOK at h
  have h1 := List.all_eq_true.1 h j (List.mem_range.2 (Array.getElem?_eq_some_iff.1 hy).1)
  simp only [Bool.and_eq_true] at h1
  have h2 := List.all_eq_true.1 h1.2 i (List.mem_range.2 hij)
  simpa [hx, hy] using h2

theorem regOK_edges {ops : Array Oper} (h : regOK ops = true) {j : Nat} {o : Oper} (ho : ops[j]? = some o) : ∀ e ∈ o.after, Region.binds .any e = true → e.on < j := by
  unfold regOK at h
  have h1 := List.all_eq_true.1 h j (List.mem_range.2 (Array.getElem?_eq_some_iff.1 ho).1)
  simp only [Bool.and_eq_true, ho] at h1
  intro e he hb
  have := List.all_eq_true.1 h1.1 e (by simpa using he)
  simpa [hb] using this

theorem totOK_spec {ops : Array Oper} {ind : List Nat} {i : Nat} (h : totOK ops ind i = true) {j : Nat} (hj : j < ops.size) (hne : j ≠ i) (hfl : fli ops ind j = false) : if j < i then ordered (befores ops) j i = true else ordered (befores ops) i j = true := by
  unfold totOK at h
  rw [List.all_eq_true] at h
  have := h j (List.mem_range.2 hj)
  simp only [hfl, Bool.or_false] at this
  split
  · rename_i k
    simpa [hne, k] using this
  · rename_i k
    simpa [hne, k] using this

/-- What a slot holds behind the operations that p lists. -/
def look (ops : Array Oper) (tm0 : Tm) (val : Nat → AV) (p : Nat → Bool) (t : Tmp) : Nat → AV
  | 0 => tm0 t
  | k + 1 => if p k = true ∧ (ops[k]?).bind (·.dst) = some t then val k else look ops tm0 val p t k

theorem look_ext {ops : Array Oper} {tm0 : Tm} {val : Nat → AV} {p q : Nat → Bool} {t : Tmp} : ∀ n, (∀ k, k < n → (ops[k]?).bind (·.dst) = some t → p k = q k) → look ops tm0 val p t n = look ops tm0 val q t n
  | 0, _ => rfl
  | n + 1, h => by
    unfold look
    rw [look_ext n (fun k hk => h k (by omega))]
    by_cases hd : (ops[n]?).bind (·.dst) = some t
    · rw [h n (by omega) hd]
    · simp [hd]

theorem look_cut {ops : Array Oper} {tm0 : Tm} {val : Nat → AV} {t : Tmp} (j : Nat) : ∀ n, j ≤ n → look ops tm0 val (fun k => decide (k < j)) t n = look ops tm0 val (fun _ => true) t j
  | 0, h => by have : j = 0 := by omega
               subst this; rfl
  | n + 1, h => by
    by_cases e : j = n + 1
    · subst e
      exact look_ext _ fun k hk _ => by simp [hk]
    · rw [← look_cut j n (by omega)]
      show (if decide (n < j) = true ∧ _ then _ else _) = _
      rw [if_neg (by simp; omega)]

structure Trace (T : TT) (C : CT) (n : Nat) (ops : Array Oper) (W : Nat → Prop) (ind : List Nat) (tot : Nat → Bool) (tmS : Nat → Tm) (HS : Nat → AH) (val : Nat → AV) : Prop where
  step : ∀ k o, ops[k]? = some o → dstOk n o.dst = true ∧ tmS (k + 1) = (tmS k).put o.dst (val k) ∧
    ((awanted ops (tmS k) o = some false ∧ val k = .tup [] ∧ HS (k + 1) = HS k) ∨ (awanted ops (tmS k) o = some true ∧ AOp T C (tmS k) (HS k) o.op (val k) (HS (k + 1)) ∧ DD T (.yes W ind) (tot k) k (tmS k) o.op (HS k) (val k) (HS (k + 1))))

theorem trace_of {T : TT} {C : CT} {n : Nat} {ops : Array Oper} {W : Nat → Prop} {ind : List Nat} {tot : Nat → Bool} : ∀ (l : List Oper) (i : Nat) (tm : Tm) (H : AH) (tm' : Tm) (H' : AH), AOps T C n ops (.yes W ind) tot i l tm H tm' H' →
    ∃ (tmS : Nat → Tm) (HS : Nat → AH) (val : Nat → AV), tmS i = tm ∧ HS i = H ∧ tmS (i + l.length) = tm' ∧ HS (i + l.length) = H' ∧
      ∀ k o, l[k]? = some o → dstOk n o.dst = true ∧ tmS (i + k + 1) = (tmS (i + k)).put o.dst (val (i + k)) ∧
        ((awanted ops (tmS (i + k)) o = some false ∧ val (i + k) = .tup [] ∧ HS (i + k + 1) = HS (i + k)) ∨
         (awanted ops (tmS (i + k)) o = some true ∧ AOp T C (tmS (i + k)) (HS (i + k)) o.op (val (i + k)) (HS (i + k + 1)) ∧ DD T (.yes W ind) (tot (i + k)) (i + k) (tmS (i + k)) o.op (HS (i + k)) (val (i + k)) (HS (i + k + 1))))
  | [], i, tm, H, tm', H', ⟨h1, h2⟩ => ⟨fun _ => tm, fun _ => H, fun _ => .undef, rfl, rfl, h1.symm, h2.symm, fun k o h => by simp at h⟩
  | o :: r, i, tm, H, tm', H', ⟨hd, h⟩ => by
    have ⟨v, H1, hr, hs⟩ : ∃ v H1, AOps T C n ops (.yes W ind) tot (i + 1) r (tm.put o.dst v) H1 tm' H' ∧
        ((awanted ops tm o = some false ∧ v = .tup [] ∧ H1 = H) ∨ (awanted ops tm o = some true ∧ AOp T C tm H o.op v H1 ∧ DD T (.yes W ind) (tot i) i tm o.op H v H1)) := by
      rcases h with ⟨hw, hr⟩ | ⟨hw, v, H1, h0, hq, hr⟩
      · exact ⟨_, _, hr, .inl ⟨hw, rfl, rfl⟩⟩
      · exact ⟨_, _, hr, .inr ⟨hw, h0, hq⟩⟩
    obtain ⟨tmS, HS, val, e1, e2, e3, e4, hst⟩ := trace_of r (i + 1) _ H1 tm' H' hr
    refine ⟨fun k => if k = i then tm else tmS k, fun k => if k = i then H else HS k, fun k => if k = i then v else val k, by simp, by simp, ?_, ?_, ?_⟩
    · simp only [List.length_cons]
      rw [if_neg (by omega), ← e3]; congr 1; omega
    · simp only [List.length_cons]
      rw [if_neg (by omega), ← e4]; congr 1; omega
    · intro k o' hk
      cases k with
      | zero =>
        simp at hk; subst hk
        simp only [Nat.add_zero, if_true, show ¬ i + 1 = i by omega, if_false, e1, e2]
        exact ⟨hd, trivial, hs⟩
      | succ k =>
        have := hst k o' (by simpa using hk)
        rw [show i + 1 + k = i + (k + 1) by omega] at this
        simp only [show ¬ i + (k + 1) = i by omega, show ¬ i + (k + 1) + 1 = i by omega, if_false]
        exact this

theorem filter_lt {p q : Nat → Bool} : ∀ (l : List Nat), (∀ x, q x = true → p x = true) → (∃ x ∈ l, p x = true ∧ q x = false) → (l.filter q).length < (l.filter p).length
  | [], _, ⟨x, h, _⟩ => by simp at h
  | y :: l, hpq, ⟨x, hx, h1, h2⟩ => by
    have hle : (l.filter q).length ≤ (l.filter p).length := by
      clear hx
      induction l with
      | nil => simp
      | cons z l ih =>
        simp only [List.filter_cons]
        by_cases hq : q z = true
        · rw [if_pos hq, if_pos (hpq z hq)]; simpa using ih
        · rw [if_neg hq]
          split
          · simp; omega
          · exact ih
    simp only [List.filter_cons]
    by_cases e : x = y
    · subst e
      rw [if_pos h1, if_neg (by simp [h2])]
      simp; omega
    · have ih := filter_lt l hpq ⟨x, by simpa [e] using hx, h1, h2⟩
      by_cases hq : q y = true
      · rw [if_pos hq, if_pos (hpq y hq)]; simpa using ih
      · rw [if_neg hq]
        split
        · simp; omega
        · exact ih

/-- A step that was taken in a part of memory, seen in the whole. -/
theorem conc_mix {μ0 μ μ' : Mu} {H0 M M' R R' : AH} {w0 w w' : World} (h : Conc μ0 μ H0 M w0 w) (k : Conc μ μ' R R' w w') (hs : R'.size ≤ M.size) (hs' : M'.size = M.size)
    (hR : ∀ b, b < R.size → (R.blk b = M.blk b ∧ M'.blk b = R'.blk b) ∨ ((R.blk b).live = false ∧ M'.blk b = M.blk b)) (hN : ∀ b, R.size ≤ b → b < R'.size → M'.blk b = R'.blk b ∧ μ b = none)
    (hO : ∀ b, R'.size ≤ b → M'.blk b = M.blk b ∨ μ b = none) (h0 : H0.size ≤ R.size) : Conc μ0 μ' H0 M' w0 w' := by
  have hle : μ.le μ' := k.le fun b h1 h2 => (hN b h1 h2).2
  have ks := k.size
  -- what is not of the part stays
  have stays : ∀ b p, μ b = some p → (M.blk b).live = true → ((b < R.size ∧ (R.blk b).live = false) ∨ R'.size ≤ b) → w'.heap[p.c]? = w.heap[p.c]? := by
    intro b p hp hl hb
    refine k.frame p.c (h.rel.dom b p hp) fun b1 p1 c1 c2 c3 c4 => ?_
    rcases hR b1 c1 with ⟨e1, _⟩ | ⟨e1, _⟩
    · rcases h.rel.inj b1 b p1 p (by rw [← e1]; exact c4) hl c2 hp c3 with e | ⟨e, _⟩
      · subst e
        rcases hb with ⟨_, hb⟩ | hb
        · rw [hb] at c4; cases c4
        · omega
      · rw [e1]; exact e
    · rw [e1] at c4; cases c4
  -- a block is of the part, or as it was
  have kinds : ∀ b p, μ' b = some p → (b < R'.size ∧ M'.blk b = R'.blk b) ∨ (M'.blk b = M.blk b ∧ μ b = some p ∧ ((b < R.size ∧ (R.blk b).live = false) ∨ R'.size ≤ b)) := by
    intro b p hp
    by_cases h1 : b < R.size
    · rcases hR b h1 with ⟨_, e⟩ | ⟨e1, e2⟩
      · exact .inl ⟨by omega, e⟩
      · rw [k.ext b (.inl h1)] at hp
        exact .inr ⟨e2, hp, .inl ⟨h1, e1⟩⟩
    · by_cases h2 : b < R'.size
      · exact .inl ⟨h2, (hN b (by omega) h2).1⟩
      · rw [k.ext b (.inr (by omega))] at hp
        rcases hO b (by omega) with e | e
        · exact .inr ⟨e, hp, .inr (by omega)⟩
        · rw [e] at hp; cases hp
  -- one of each kind
  have mixed : ∀ b b' p p', (M'.blk b).live = true → (M'.blk b').live = true → μ' b = some p → p.c = p'.c → b < R'.size → M'.blk b = R'.blk b → M'.blk b' = M.blk b' → μ b' = some p' →
      ((b' < R.size ∧ (R.blk b').live = false) ∨ R'.size ≤ b') → b = b' ∨ ((M'.blk b).isRo = true ∧ (M'.blk b').isRo = true) := by
    intro b b' p p' l l' hp hpc hb e e' hp' hb'
    rw [e'] at l'
    by_cases h1 : b < R.size
    · have lR : (R.blk b).live = true := by
        cases q : (R.blk b).live
        · have := k.dead b h1 q; rw [e] at l; rw [l] at this; cases this
        · rfl
      rcases hR b h1 with ⟨e1, _⟩ | ⟨e1, _⟩
      · rw [k.ext b (.inl h1)] at hp
        rcases h.rel.inj b b' p p' (by rw [← e1]; exact lR) l' hp hp' hpc with q | ⟨q1, q2⟩
        · exact .inl q
        · right
          rw [e', e, k.ro b h1 (by rw [e1]; exact q1), e1]; exact ⟨q1, q2⟩
      · rw [e1] at lR; cases lR
    · exfalso
      rcases k.fresh b p (by omega) hb hp with q | ⟨b0, p0, c1, c2, c3, c4, c5, c6⟩
      · have := h.rel.dom b' p' hp'; omega
      · rcases hR b0 c1 with ⟨e1, _⟩ | ⟨e1, _⟩
        · rcases h.rel.inj b0 b' p0 p' (by rw [← e1]; exact c2) l' c5 hp' (c6.trans hpc) with q | ⟨q, _⟩
          · subst q
            rcases hb' with ⟨_, q⟩ | q
            · rw [q] at c2; cases c2
            · omega
          · rw [e1, q] at c3; cases c3
        · rw [e1] at c2; cases c2
  have deadM : ∀ b, b < R.size → (M.blk b).live = false → (M'.blk b).live = false := by
    intro b hb hl
    rcases hR b hb with ⟨e1, e2⟩ | ⟨_, e2⟩
    · rw [e2]; exact k.dead b hb (by rw [e1]; exact hl)
    · rw [e2]; exact hl
  refine ⟨⟨k.rel.dom, ?_, ?_, ?_⟩, ?_, by have := h.size; omega, Nat.le_trans h.wsz k.wsz, k.os.trans h.os, k.tape.trans h.tape, k.output.trans h.output, ?_, ?_, ?_, ?_, ?_⟩
  · intro b p e ro xs hp hb
    rcases kinds b p hp with ⟨_, q⟩ | ⟨q, hp0, hq⟩
    · exact k.rel.cells b p e ro xs hp (by rw [← q]; exact hb)
    · rw [q] at hb
      obtain ⟨h1, h2, arr, t, fz, h3, h4, h5, h6⟩ := h.rel.cells b p e ro xs hp0 hb
      refine ⟨h1, h2, arr, t, fz, by rw [stays b p hp0 (by rw [hb]; rfl) hq]; exact h3, h4, h5, fun i x hi => ?_⟩
      obtain ⟨v, hv, hr⟩ := h6 i x hi
      exact ⟨v, hv, VRel.mono hle _ _ hr⟩
  · intro b p es hp hb
    rcases kinds b p hp with ⟨_, q⟩ | ⟨q, hp0, hq⟩
    · exact k.rel.maps b p es hp (by rw [← q]; exact hb)
    · rw [q] at hb
      obtain ⟨ents, cl, h1, h2, h3, h4⟩ := h.rel.maps b p es hp0 hb
      refine ⟨ents, cl, by rw [stays b p hp0 (by rw [hb]; rfl) hq]; exact h1, h2, h3, fun i x hi => ?_⟩
      obtain ⟨y, hy, hk, hv⟩ := h4 i x hi
      exact ⟨y, hy, VRel.mono hle _ _ hk, VRel.mono hle _ _ hv⟩
  · intro b b' p p' l l' hp hp' hpc
    rcases kinds b p hp with ⟨q1, q⟩ | ⟨q, hp0, hq⟩
    · rcases kinds b' p' hp' with ⟨q1', q'⟩ | ⟨q', hp0', hq'⟩
      · have := k.rel.inj b b' p p' (by rw [← q]; exact l) (by rw [← q']; exact l') hp hp' hpc
        rw [← q, ← q'] at this; exact this
      · exact mixed b b' p p' l l' hp hpc q1 q q' hp0' hq'
    · rcases kinds b' p' hp' with ⟨q1', q'⟩ | ⟨q', hp0', hq'⟩
      · rcases mixed b' b p' p l' l hp' hpc.symm q1' q' q hp0 hq with e | ⟨e1, e2⟩
        · exact .inl e.symm
        · exact .inr ⟨e2, e1⟩
      · have := h.rel.inj b b' p p' (by rw [← q]; exact l) (by rw [← q']; exact l') hp0 hp0' hpc
        rw [← q, ← q'] at this; exact this
  · intro b hb
    rw [k.ext b (by omega), h.ext b (by omega)]
  · intro b p h1 h2 hp
    have old : ∀ b p, H0.size ≤ b → b < M.size → μ b = some p → w0.heap.size ≤ p.c ∨ ∃ b0 p0, b0 < H0.size ∧ (H0.blk b0).live = true ∧ (H0.blk b0).isRo = false ∧ (M'.blk b0).live = false ∧ μ0 b0 = some p0 ∧ p0.c = p.c := by
      intro b p h1 h2 hp
      rcases h.fresh b p h1 h2 hp with q | ⟨b0, p0, c1, c2, c3, c4, c5, c6⟩
      · exact .inl q
      · exact .inr ⟨b0, p0, c1, c2, c3, deadM b0 (by omega) c4, c5, c6⟩
    by_cases hb : b < R.size ∨ R'.size ≤ b
    · rw [k.ext b hb] at hp
      exact old b p h1 (by omega) hp
    · rcases k.fresh b p (by omega) (by omega) hp with q | ⟨b0, p0, c1, c2, c3, c4, c5, c6⟩
      · exact .inl (Nat.le_trans h.wsz q)
      · rcases hR b0 c1 with ⟨e1, e2⟩ | ⟨e1, _⟩
        · by_cases hb0 : b0 < H0.size
          · right
            refine ⟨b0, p0, hb0, ?_, ?_, by rw [e2]; exact c4, by rw [← h.ext b0 (.inl hb0)]; exact c5, c6⟩
            · cases q : (H0.blk b0).live
              · have := h.dead b0 hb0 q; rw [← e1, c2] at this; cases this
              · rfl
            · cases q : (H0.blk b0).isRo
              · rfl
              · have := h.ro b0 hb0 q; rw [e1, this, q] at c3; cases c3
          · have := old b0 p0 (by omega) (by omega) c5
            rw [c6] at this; exact this
        · rw [e1] at c2; cases c2
  · intro c hc hcb
    rw [← h.frame c hc hcb]
    refine k.frame c (Nat.lt_of_lt_of_le hc h.wsz) fun b1 p1 c1 c2 c3 c4 => ?_
    rcases hR b1 c1 with ⟨e1, _⟩ | ⟨e1, _⟩
    · by_cases hb : b1 < H0.size
      · rw [h.ext b1 (.inl hb)] at c2
        have hl : (H0.blk b1).live = true := by
          cases q : (H0.blk b1).live
          · have := h.dead b1 hb q; rw [← e1, c4] at this; cases this
          · rfl
        have := hcb b1 p1 hb c2 c3 hl
        rw [e1, h.ro b1 hb this]; exact this
      · rcases h.fresh b1 p1 (by omega) (by omega) c2 with q | ⟨b0, p0, d1, d2, d3, d4, d5, d6⟩
        · omega
        · have := hcb b0 p0 d1 d5 (d6.trans c3) d2
          rw [this] at d3; cases d3
    · rw [e1] at c4; cases c4
  · intro b hb hr
    have hb' : b < R.size := by omega
    have e0 := h.ro b hb hr
    rcases hR b hb' with ⟨e1, e2⟩ | ⟨_, e2⟩
    · rw [e2, k.ro b hb' (by rw [e1, e0]; exact hr), e1, e0]
    · rw [e2, e0]
  · intro b hb hl
    exact deadM b (by omega) (h.dead b hb hl)
  · intro b hb hl
    have hb' : b < R.size := by omega
    have e0 := h.nro b hb hl
    rcases hR b hb' with ⟨e1, e2⟩ | ⟨_, e2⟩
    · rw [e2]; exact k.nro b hb' (by rw [e1]; exact e0)
    · rw [e2]; exact e0

end Go.Proofs.Ytopbfmhajbjepaa
