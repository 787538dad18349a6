/- A region that draws its order: whatever order the edges allow, the end is that of the text's order. -/
import Derived.Test.YtopbfmhajbjepaaFw10
namespace Go.Proofs.Ytopbfmhajbjepaa
open Go
set_option linter.unusedSectionVars false
set_option linter.unusedSimpArgs false
set_option linter.unusedVariables false

def edgeMask (acc : Array Nat) : List Edge → Nat
  | [] => 0
  | e :: es => if Region.binds .any e then (2 ^ e.on ||| acc.getD e.on 0) ||| edgeMask acc es else edgeMask acc es
def masks : List Oper → Array Nat → Array Nat
  | [], acc => acc
  | o :: r, acc => masks r (acc.push (edgeMask acc o.after.toList))
def befores (ops : Array Oper) : Array Nat := masks ops.toList #[]
/-- i stands before j. -/
def ordered (b : Array Nat) (i j : Nat) : Bool := (b.getD j 0).testBit i

/-- Operations that touch one slot stand in order, and edges lead back. -/
def regOK (ops : Array Oper) : Bool :=
  let b := befores ops
  (List.range ops.size).all fun j =>
    (match ops[j]? with | some o => o.after.toList.all fun e => !Region.binds .any e || decide (e.on < j) | none => true) &&
    (List.range j).all fun i => (match ops[i]?, ops[j]? with | some x, some y => Oper.apart ops x y | _, _ => true) || ordered b i j

/-- Operations on slots alone. -/
def floats : Op → Bool
  | .move _ | .assign _ | .extract _ _ => true
  | _ => false
def flt (ops : Array Oper) (i : Nat) : Bool := match ops[i]? with | some o => floats o.op | none => false
theorem floats_spec {T : TT} {C : CT} {tm : Tm} {H H1 : AH} {op : Op} {v : AV} (hf : floats op = true) (h : AOp T C tm H op v H1) : H1 = H ∧ ∀ H', AOp T C tm H' op v H' := by
  cases op <;> simp [floats] at hf <;> simp only [AOp, aop] at h ⊢
  · simp at h ⊢; exact ⟨h.2.symm, fun _ => h.1⟩
  · simp at h ⊢; exact ⟨h.2.symm, fun _ => h.1⟩
  · rename_i x j
    generalize ev tm x = y at h ⊢
    cases y <;> simp at h ⊢
    obtain ⟨x, h1, h2, h3⟩ := h; exact ⟨h3.symm, fun _ => by rw [h1, h2]⟩

/-- An operation stands in order with all others. -/
def totOK (ops : Array Oper) (i : Nat) : Bool :=
  let b := befores ops
  (List.range ops.size).all fun j => j == i || flt ops j || (if j < i then ordered b j i else ordered b i j)

def Down (ops : Array Oper) (L : Nat → Bool) : Prop := ∀ j o, ops[j]? = some o → L j = true → ∀ e ∈ o.after, Region.binds .any e = true → L e.on = true

theorem edgeMask_bit {acc : Array Nat} {L : Nat → Bool} (hacc : ∀ j i, L j = true → (acc.getD j 0).testBit i = true → L i = true) :
    ∀ (es : List Edge) (i : Nat), (∀ e ∈ es, Region.binds .any e = true → L e.on = true) → (edgeMask acc es).testBit i = true → L i = true
  | [], i, _, h => by simp [edgeMask] at h
  | e :: es, i, hes, h => by
    unfold edgeMask at h
    split at h
    · rename_i hb
      have hL := hes e (by simp) hb
      simp only [Nat.testBit_or, Bool.or_eq_true] at h
      rcases h with (h | h) | h
      · rw [Nat.testBit_two_pow] at h
        have : e.on = i := by simpa using h
        rw [← this]; exact hL
      · exact hacc _ _ hL h
      · exact edgeMask_bit hacc es i (fun e' he => hes e' (by simp [he])) h
    · exact edgeMask_bit hacc es i (fun e' he => hes e' (by simp [he])) h

theorem masks_spec {ops : Array Oper} {L : Nat → Bool} (hd : Down ops L) : ∀ (l pre : List Oper) (acc : Array Nat), ops.toList = pre ++ l → acc.size = pre.length →
    (∀ j i, L j = true → (acc.getD j 0).testBit i = true → L i = true) → ∀ j i, L j = true → ((masks l acc).getD j 0).testBit i = true → L i = true
  | [], pre, acc, _, _, hacc => hacc
  | o :: r, pre, acc, ho, hs, hacc => by
    unfold masks
    refine masks_spec hd r (pre ++ [o]) _ (by rw [ho]; simp) (by simp [hs]) ?_
    intro j i hj hb
    rw [Array.getD_eq_getD_getElem?, Array.getElem?_push] at hb
    split at hb
    · rename_i e
      subst e
      refine edgeMask_bit hacc o.after.toList i (fun e he hbi => ?_) (by simpa using hb)
      refine hd acc.size o ?_ hj e (by simpa using he) hbi
      have : ops.toList[pre.length]? = some o := by rw [ho]; simp
      rw [hs]; simpa using this
    · exact hacc j i hj (by rw [Array.getD_eq_getD_getElem?]; exact hb)

theorem ordered_down {ops : Array Oper} {L : Nat → Bool} (hd : Down ops L) {i j : Nat} (hj : L j = true) (h : ordered (befores ops) i j = true) : L i = true :=
  masks_spec hd ops.toList [] #[] (by simp) rfl (fun j i _ hb => by simp at hb) j i hj h

/-- What stands before an operation that is ready is listed. -/
theorem ordered_ready {ops : Array Oper} {L : Nat → Bool} (hd : Down ops L) {i j : Nat} {o : Oper} (ho : ops[j]? = some o) (hr : ∀ e ∈ o.after, Region.binds .any e = true → L e.on = true)
    (hij : i ≠ j) (h : ordered (befores ops) i j = true) : L i = true := by
  have hd' : Down ops (fun k => L k || k == j) := by
    intro k o' hk hL e he hb
    by_cases e' : k = j
    · subst e'; rw [ho] at hk; cases hk; simp [hr e he hb]
    · have : L k = true := by simpa [e'] using hL
      simp [hd k o' hk this e he hb]
  have := ordered_down hd' (i := i) (j := j) (by simp) h
  simpa [hij] using this

theorem regOK_spec {ops : Array Oper} (h : regOK ops = true) {i j : Nat} {x y : Oper} (hij : i < j) (hx : ops[i]? = some x) (hy : ops[j]? = some y) : Oper.apart ops x y = true ∨ ordered (befores ops) i j = true := by
  unfold regOK at h
  have h1 := List.all_eq_true.1 h j (List.mem_range.2 (Array.getElem?_eq_some_iff.1 hy).1)
  simp only [Bool.and_eq_true] at h1
  have h2 := List.all_eq_true.1 h1.2 i (List.mem_range.2 hij)
  simpa [hx, hy] using h2

theorem regOK_edges {ops : Array Oper} (h : regOK ops = true) {j : Nat} {o : Oper} (ho : ops[j]? = some o) : ∀ e ∈ o.after, Region.binds .any e = true → e.on < j := by
  unfold regOK at h
  have h1 := List.all_eq_true.1 h j (List.mem_range.2 (Array.getElem?_eq_some_iff.1 ho).1)
  simp only [Bool.and_eq_true, ho] at h1
  intro e he hb
  have := List.all_eq_true.1 h1.1 e (by simpa using he)
  simpa [hb] using this

theorem totOK_spec {ops : Array Oper} {i : Nat} (h : totOK ops i = true) {j : Nat} (hj : j < ops.size) (hne : j ≠ i) (hfl : flt ops j = false) : if j < i then ordered (befores ops) j i = true else ordered (befores ops) i j = true := by
  unfold totOK at h
  have h1 := List.all_eq_true.1 h j (List.mem_range.2 hj)
  simp only [Bool.or_eq_true, beq_iff_eq, hne, false_or, hfl, Bool.false_eq_true] at h1
  split <;> simp_all

/-- What a slot holds behind the operations that p lists. -/
def look (ops : Array Oper) (tm0 : Tm) (val : Nat → AV) (p : Nat → Bool) (t : Tmp) : Nat → AV
  | 0 => tm0 t
  | k + 1 => if p k = true ∧ (ops[k]?).bind (·.dst) = some t then val k else look ops tm0 val p t k

theorem look_ext {ops : Array Oper} {tm0 : Tm} {val : Nat → AV} {p q : Nat → Bool} {t : Tmp} : ∀ n, (∀ k, k < n → (ops[k]?).bind (·.dst) = some t → p k = q k) → look ops tm0 val p t n = look ops tm0 val q t n
  | 0, _ => rfl
  | n + 1, h => by
    unfold look
    rw [look_ext n (fun k hk => h k (by omega))]
    by_cases hd : (ops[n]?).bind (·.dst) = some t
    · rw [h n (by omega) hd]
    · simp [hd]

theorem look_cut {ops : Array Oper} {tm0 : Tm} {val : Nat → AV} {t : Tmp} (j : Nat) : ∀ n, j ≤ n → look ops tm0 val (fun k => decide (k < j)) t n = look ops tm0 val (fun _ => true) t j
  | 0, h => by have : j = 0 := by omega
               subst this; rfl
  | n + 1, h => by
    by_cases e : j = n + 1
    · subst e
      exact look_ext _ fun k hk _ => by simp [hk]
    · rw [← look_cut j n (by omega)]
      show (if decide (n < j) = true ∧ _ then _ else _) = _
      rw [if_neg (by simp; omega)]

structure Trace (T : TT) (C : CT) (n : Nat) (ops : Array Oper) (tot : Nat → Bool) (tmS : Nat → Tm) (HS : Nat → AH) (val : Nat → AV) : Prop where
  step : ∀ k o, ops[k]? = some o → dstOk n o.dst = true ∧ tmS (k + 1) = (tmS k).put o.dst (val k) ∧
    ((awanted ops (tmS k) o = some false ∧ val k = .tup [] ∧ HS (k + 1) = HS k) ∨ (awanted ops (tmS k) o = some true ∧ AOp T C (tmS k) (HS k) o.op (val k) (HS (k + 1)) ∧ (tot k = true ∨ Quiet (HS k) (HS (k + 1)))))

theorem trace_of {T : TT} {C : CT} {n : Nat} {ops : Array Oper} {tot : Nat → Bool} : ∀ (l : List Oper) (i : Nat) (tm : Tm) (H : AH) (tm' : Tm) (H' : AH), AOps T C n ops true tot i l tm H tm' H' →
    ∃ (tmS : Nat → Tm) (HS : Nat → AH) (val : Nat → AV), tmS i = tm ∧ HS i = H ∧ tmS (i + l.length) = tm' ∧ HS (i + l.length) = H' ∧
      ∀ k o, l[k]? = some o → dstOk n o.dst = true ∧ tmS (i + k + 1) = (tmS (i + k)).put o.dst (val (i + k)) ∧
        ((awanted ops (tmS (i + k)) o = some false ∧ val (i + k) = .tup [] ∧ HS (i + k + 1) = HS (i + k)) ∨
         (awanted ops (tmS (i + k)) o = some true ∧ AOp T C (tmS (i + k)) (HS (i + k)) o.op (val (i + k)) (HS (i + k + 1)) ∧ (tot (i + k) = true ∨ Quiet (HS (i + k)) (HS (i + k + 1)))))
  | [], i, tm, H, tm', H', ⟨h1, h2⟩ => ⟨fun _ => tm, fun _ => H, fun _ => .undef, rfl, rfl, h1.symm, h2.symm, fun k o h => by simp at h⟩
  | o :: r, i, tm, H, tm', H', ⟨hd, h⟩ => by
    have ⟨v, H1, hr, hs⟩ : ∃ v H1, AOps T C n ops true tot (i + 1) r (tm.put o.dst v) H1 tm' H' ∧
        ((awanted ops tm o = some false ∧ v = .tup [] ∧ H1 = H) ∨ (awanted ops tm o = some true ∧ AOp T C tm H o.op v H1 ∧ (tot i = true ∨ Quiet H H1))) := by
      rcases h with ⟨hw, hr⟩ | ⟨hw, v, H1, h0, hq, hr⟩
      · exact ⟨_, _, hr, .inl ⟨hw, rfl, rfl⟩⟩
      · exact ⟨_, _, hr, .inr ⟨hw, h0, hq rfl⟩⟩
    obtain ⟨tmS, HS, val, e1, e2, e3, e4, hst⟩ := trace_of r (i + 1) _ H1 tm' H' hr
    refine ⟨fun k => if k = i then tm else tmS k, fun k => if k = i then H else HS k, fun k => if k = i then v else val k, by simp, by simp, ?_, ?_, ?_⟩
    · simp only [List.length_cons]
      rw [if_neg (by omega), ← e3]; congr 1; omega
    · simp only [List.length_cons]
      rw [if_neg (by omega), ← e4]; congr 1; omega
    · intro k o' hk
      cases k with
      | zero =>
        simp at hk; subst hk
        simp only [Nat.add_zero, if_true, show ¬ i + 1 = i by omega, if_false, e1, e2]
        exact ⟨hd, trivial, hs⟩
      | succ k =>
        have := hst k o' (by simpa using hk)
        rw [show i + 1 + k = i + (k + 1) by omega] at this
        simp only [show ¬ i + (k + 1) = i by omega, show ¬ i + (k + 1) + 1 = i by omega, if_false]
        exact this

theorem filter_lt {p q : Nat → Bool} : ∀ (l : List Nat), (∀ x, q x = true → p x = true) → (∃ x ∈ l, p x = true ∧ q x = false) → (l.filter q).length < (l.filter p).length
  | [], _, ⟨x, h, _⟩ => by simp at h
  | y :: l, hpq, ⟨x, hx, h1, h2⟩ => by
    have hle : (l.filter q).length ≤ (l.filter p).length := by
      clear hx
      induction l with
      | nil => simp
      | cons z l ih =>
        simp only [List.filter_cons]
        by_cases hq : q z = true
        · rw [if_pos hq, if_pos (hpq z hq)]; simpa using ih
        · rw [if_neg hq]
          split
          · simp; omega
          · exact ih
    simp only [List.filter_cons]
    by_cases e : x = y
    · subst e
      rw [if_pos h1, if_neg (by simp [h2])]
      simp; omega
    · have ih := filter_lt l hpq ⟨x, by simpa [e] using hx, h1, h2⟩
      by_cases hq : q y = true
      · rw [if_pos hq, if_pos (hpq y hq)]; simpa using ih
      · rw [if_neg hq]
        split
        · simp; omega
        · exact ih

end Go.Proofs.Ytopbfmhajbjepaa
