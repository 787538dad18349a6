/- A region that draws its order: the simulation. -/
import Derived.Test.YtopbfmhajbjepaaFw11
namespace Go.Proofs.Ytopbfmhajbjepaa
open Go
set_option linter.unusedSectionVars false
set_option linter.unusedSimpArgs false
set_option linter.unusedVariables false

/-- Memory when the writers before e have written: what is not of W is as at the end. -/
noncomputable def MX (W : Nat → Prop) (HS : Nat → AH) (N e : Nat) : AH := ⟨(HS N).size, fun b => open Classical in if b < (HS N).size then (if W b then (HS e).blk b else (HS N).blk b) else .dead, fun b h => if_neg (by omega)⟩

theorem MX_top (W : Nat → Prop) (HS : Nat → AH) (N : Nat) : MX W HS N N = HS N := by
  have h : ∀ b, (MX W HS N N).blk b = (HS N).blk b := by
    intro b
    simp only [MX]
    by_cases hb : b < (HS N).size
    · rw [if_pos hb]; split <;> rfl
    · rw [if_neg hb, (HS N).out b (by omega)]
  have hs : (MX W HS N N).size = (HS N).size := rfl
  generalize MX W HS N N = A at h hs
  generalize HS N = B at h hs
  obtain ⟨s, f, p⟩ := A; obtain ⟨s', f', p'⟩ := B
  simp only at h hs
  subst hs
  have : f = f' := funext h
  subst this; rfl

/-- How far a region that draws has come: all below m, none from e on, between them whatever the edges let. -/
structure Seg (ops : Array Oper) (W : Nat → Prop) (ind : List Nat) (n : Nat) (tmS : Nat → Tm) (HS : Nat → AH) (val : Nat → AV) (μ0 : Mu) (w0 : World) (L : Nat → Bool) (m e : Nat) (μ : Mu) (a : Act) (w : World) : Prop where
  me : m ≤ e
  eN : e ≤ ops.size
  low : ∀ i, i < m → L i = true ∨ fli ops ind i = true
  high : ∀ i, L i = true → i < e ∨ fli ops ind i = true
  quiet : ∀ i, m ≤ i → i < e → Quiet (HS i) (HS (i + 1))
  last : e = ops.size ∨ totOK ops ind e = true ∧ fli ops ind e = false
  down : Down ops L
  tsz : a.tmps.size = n
  dfs : a.defers = []
  tmps : ∀ t, VRel μ (look ops (tmS 0) val L t ops.size) (a.tmps.getD t undef)
  conc : Conc μ0 μ (HS 0) (MX W HS ops.size e) w0 w
  free : ∀ i, i < ops.size → L i = false → Free μ (HS i).size (HS (i + 1)).size

section
variable {P : Program} {T : TT} (hT : ∀ t d, T t = some d → TDOK P t d) {C : CT} (hC : CallSim P C)
  (hext : ∀ f, (∀ args H v H', C f args H v H' → ∃ fn, P.funcs[f]? = some fn ∧ fn.body.isSome = true ∧ (fn.name == "runtime.NumGoroutine") = false))
  (hsz : ∀ f args H v H', C f args H v H' → H.size ≤ H'.size)
  {n : Nat} {ops : Array Oper} {tmS : Nat → Tm} {HS : Nat → AH} {val : Nat → AV} (hok : regOK ops = true) {W : Nat → Prop} {ind : List Nat} (htr : Trace T C n ops W ind (totOK ops ind) tmS HS val)
include hT hC hext hsz hok htr

theorem tmS_look (t : Tmp) : ∀ j, j ≤ ops.size → tmS j t = look ops (tmS 0) val (fun _ => true) t j
  | 0, _ => rfl
  | j + 1, h => by
    have hj : j < ops.size := by omega
    have ho : ops[j]? = some ops[j] := Array.getElem?_eq_getElem hj
    obtain ⟨_, h2, _⟩ := htr.step j _ ho
    rw [h2]
    show _ = (if _ then _ else _)
    simp only [ho, Option.bind_some, true_and]
    cases hd : ops[j].dst with
    | none =>
      simp only [Tm.put]
      simp only [reduceCtorEq, if_false]
      exact tmS_look t j (by omega)
    | some d =>
      simp only [Tm.put, Tm.upd, Option.some.injEq]
      by_cases e : t = d
      · rw [if_pos e, if_pos e.symm]
      · rw [if_neg e, if_neg (fun k => e k.symm)]; exact tmS_look t j (by omega)

theorem HS_mono {i : Nat} (hi : i < ops.size) : (HS i).size ≤ (HS (i + 1)).size := by
  obtain ⟨_, _, h⟩ := htr.step i _ (Array.getElem?_eq_getElem hi)
  rcases h with ⟨_, _, h⟩ | ⟨_, h, _⟩
  · rw [h]; exact Nat.le_refl _
  · exact op_size hsz h

theorem HS_le {i : Nat} : ∀ {j : Nat}, i ≤ j → j ≤ ops.size → (HS i).size ≤ (HS j).size
  | 0, h, _ => by have : i = 0 := by omega
                  subst this; exact Nat.le_refl _
  | j + 1, h, hj => by
    by_cases e : i = j + 1
    · subst e; exact Nat.le_refl _
    · exact Nat.le_trans (HS_le (j := j) (by omega) (by omega)) (HS_mono hT hC hext hsz hok htr (by omega))

theorem HS_quiet {m e : Nat} (hq : ∀ i, m ≤ i → i < e → Quiet (HS i) (HS (i + 1))) (he : e ≤ ops.size) {i : Nat} (hm : m ≤ i) : ∀ {j : Nat}, i ≤ j → j ≤ e → Quiet (HS i) (HS j)
  | 0, h, _ => by have : i = 0 := by omega
                  subst this; exact fun _ _ => rfl
  | j + 1, h, hj => by
    by_cases e' : i = j + 1
    · subst e'; exact fun _ _ => rfl
    · intro b hb
      have h1 := HS_quiet hq he hm (j := j) (by omega) (by omega) b hb
      have h2 := hq j (by omega) (by omega) b (Nat.lt_of_lt_of_le hb (HS_le hT hC hext hsz hok htr (by omega) (by omega)))
      rw [h2, h1]

/-- What an operation that is ready sees. -/
theorem sees {L : Nat → Bool} (hd : Down ops L) {j : Nat} {o : Oper} (ho : ops[j]? = some o) (hL : L j = false) (hr : ∀ e ∈ o.after, Region.binds .any e = true → L e.on = true)
    {t : Tmp} (ht : t ∈ o.looksAt ops ∨ o.dst = some t) : look ops (tmS 0) val L t ops.size = tmS j t := by
  have hj : j < ops.size := (Array.getElem?_eq_some_iff.1 ho).1
  rw [tmS_look hT hC hext hsz hok htr t j (by omega), ← look_cut j ops.size (by omega)]
  refine look_ext _ fun k hk hdk => ?_
  have hok' : ops[k]? = some ops[k] := Array.getElem?_eq_getElem hk
  rw [hok'] at hdk
  simp only [Option.bind_some] at hdk
  rcases Nat.lt_trichotomy k j with h | h | h
  · rcases regOK_spec hok h hok' ho with ha | hb
    · exfalso
      obtain ⟨a1, a2, a3⟩ := Oper.apart_spec ha
      rcases ht with ht | ht
      · exact a1 t hdk ht
      · exact a2 t hdk ht
    · rw [ordered_ready hd ho hr (by omega) hb]; simp [h]
  · subst h; rw [hL]; simp
  · rcases regOK_spec hok h ho hok' with ha | hb
    · exfalso
      obtain ⟨a1, a2, a3⟩ := Oper.apart_spec ha
      rcases ht with ht | ht
      · exact a3 t hdk ht
      · exact a2 t ht hdk
    · have : L k = false := by
        cases e : L k
        · rfl
        · rw [ordered_down hd e hb] at hL; cases hL
      rw [this]; simp; omega

/-- The slots behind it. -/
theorem slots {L : Nat → Bool} (hd : Down ops L) {j : Nat} {o : Oper} (ho : ops[j]? = some o) (hL : L j = false) (hr : ∀ e ∈ o.after, Region.binds .any e = true → L e.on = true) (t : Tmp) :
    look ops (tmS 0) val (fun k => k == j || L k) t ops.size = if o.dst = some t then val j else look ops (tmS 0) val L t ops.size := by
  have hj : j < ops.size := (Array.getElem?_eq_some_iff.1 ho).1
  split
  · rename_i hdt
    rw [look_ext (q := fun k => decide (k < j + 1)) _ fun k hk hdk => ?_, look_cut (j + 1) ops.size (by omega)]
    · show (if _ then _ else _) = _
      rw [if_pos ⟨rfl, by rw [ho]; exact hdt⟩]
    · have hok' : ops[k]? = some ops[k] := Array.getElem?_eq_getElem hk
      rw [hok'] at hdk
      simp only [Option.bind_some] at hdk
      rcases Nat.lt_trichotomy k j with h | h | h
      · rcases regOK_spec hok h hok' ho with ha | hb
        · exact absurd hdt ((Oper.apart_spec ha).2.1 t hdk)
        · rw [ordered_ready hd ho hr (by omega) hb]; simp; omega
      · subst h; simp
      · rcases regOK_spec hok h ho hok' with ha | hb
        · exact absurd hdk ((Oper.apart_spec ha).2.1 t hdt)
        · have : L k = false := by
            cases e : L k
            · rfl
            · rw [ordered_down hd e hb] at hL; cases hL
          have h1 : (k == j) = false := by simp; omega
          have h2 : decide (k < j + 1) = false := by simp; omega
          rw [this, h1, h2]; rfl
  · rename_i hdt
    refine look_ext _ fun k hk hdk => ?_
    by_cases e : k = j
    · subst e; rw [ho] at hdk; exact absurd (by simpa using hdk) hdt
    · simp [e]

/-- A step turns W alone. -/
theorem HS_qx {k : Nat} (hk : k < ops.size) : QX W (HS k) (HS (k + 1)) := by
  obtain ⟨_, _, h⟩ := htr.step k _ (Array.getElem?_eq_getElem hk)
  rcases h with ⟨_, _, h⟩ | ⟨_, _, h⟩
  · rw [h]; exact fun _ _ _ => rfl
  · rcases h.1 with h | ⟨_, h⟩
    · exact fun b hb _ => h b hb
    · exact h
theorem HS_stay {b : Nat} (hW : ¬ W b) {i : Nat} (hb : b < (HS i).size) : ∀ {j : Nat}, i ≤ j → j ≤ ops.size → (HS j).blk b = (HS i).blk b
  | 0, h, _ => by have : i = 0 := by omega
                  subst this; rfl
  | j + 1, h, hj => by
    by_cases e : i = j + 1
    · subst e; rfl
    · rw [HS_qx hT hC hext hsz hok htr (by omega) b (Nat.lt_of_lt_of_le hb (HS_le hT hC hext hsz hok htr (by omega) (by omega))) hW]
      exact HS_stay hW hb (by omega) (by omega)
theorem MX_eq {m e j b : Nat} (hq : ∀ i, m ≤ i → i < e → Quiet (HS i) (HS (i + 1))) (he : e ≤ ops.size) (hm : m ≤ j) (hj : j ≤ e) (hb : b < (HS j).size) : (MX W HS ops.size e).blk b = (HS j).blk b := by
  have h1 := HS_le hT hC hext hsz hok htr (i := j) (j := ops.size) (by omega) (Nat.le_refl _)
  simp only [MX, if_pos (show b < (HS ops.size).size by omega)]
  by_cases hW : W b
  · rw [if_pos hW]; exact HS_quiet hT hC hext hsz hok htr hq he hm hj (Nat.le_refl _) b hb
  · rw [if_neg hW]; exact HS_stay hT hC hext hsz hok htr hW hb (by omega) (Nat.le_refl _)
theorem MX_out {e j b : Nat} (hW : ¬ W b) (hj : j ≤ ops.size) (hb : b < (HS j).size) : (MX W HS ops.size e).blk b = (HS j).blk b := by
  have h1 := HS_le hT hC hext hsz hok htr hj (Nat.le_refl _)
  simp only [MX, if_pos (show b < (HS ops.size).size by omega), if_neg hW]
  exact HS_stay hT hC hext hsz hok htr hW hb hj (Nat.le_refl _)
/-- What an independent operation does. -/
theorem ind_spec {j : Nat} {o : Oper} (ho : ops[j]? = some o) (hi : ind.contains j = true) : Quiet (HS j) (HS (j + 1)) ∧ (∀ b, (HS j).size ≤ b → b < (HS (j + 1)).size → ¬ W b) ∧
    ((awanted ops (tmS j) o = some false ∧ val j = .tup [] ∧ HS (j + 1) = HS j) ∨ (awanted ops (tmS j) o = some true ∧ aop T (tmS j) ((HS j).drop W) o.op = some (val j, (HS (j + 1)).drop W))) := by
  obtain ⟨_, _, h⟩ := htr.step j o ho
  rcases h with ⟨h1, h2, h⟩ | ⟨h1, _, h⟩
  · rw [h]; exact ⟨fun _ _ => rfl, fun b h1 h2 => by omega, .inl ⟨h1, h2, rfl⟩⟩
  · obtain ⟨q1, q2, q3⟩ := h.2 hi
    exact ⟨q1, q2, .inr ⟨h1, q3⟩⟩
theorem flt_spec {j : Nat} {o : Oper} (ho : ops[j]? = some o) (hf : flt ops j = true) : HS (j + 1) = HS j := by
  obtain ⟨_, _, h⟩ := htr.step j o ho
  rcases h with ⟨_, _, h⟩ | ⟨_, h, _⟩
  · exact h
  · exact (floats_spec (by simpa [flt, ho] using hf) h).1
/-- Where a new block was made. -/
theorem born {b : Nat} : ∀ {i j : Nat}, i ≤ j → j ≤ ops.size → (HS i).size ≤ b → b < (HS j).size → ∃ k, i ≤ k ∧ k < j ∧ (HS k).size ≤ b ∧ b < (HS (k + 1)).size
  | i, 0, h, _, h1, h2 => by have : i = 0 := by omega
                             subst this; omega
  | i, j + 1, h, hj, h1, h2 => by
    by_cases e : i = j + 1
    · subst e; omega
    · by_cases h3 : b < (HS j).size
      · obtain ⟨k, a1, a2, a3, a4⟩ := born (i := i) (j := j) (by omega) (by omega) h1 h3
        exact ⟨k, a1, by omega, a3, a4⟩
      · exact ⟨j, by omega, by omega, by omega, h2⟩

/-- One more operation is carried out. -/
theorem seg_put {μ0 : Mu} {w0 : World} {L : Nat → Bool} {m e m' e' : Nat} {μ : Mu} {a : Act} {w : World} (S : Seg ops W ind n tmS HS val μ0 w0 L m e μ a w) {j : Nat} {o : Oper} (ho : ops[j]? = some o)
    (hL : L j = false) (hr : ∀ e ∈ o.after, Region.binds .any e = true → L e.on = true) {μ' : Mu} {v' : Value} {w' : World}
    (hle : μ.le μ') (hx : ∀ b, (b < (HS j).size ∨ (HS (j + 1)).size ≤ b) → μ' b = μ b) (hv : VRel μ' (val j) v') (hc : Conc μ0 μ' (HS 0) (MX W HS ops.size e') w0 w')
    (me : m' ≤ e') (eN : e' ≤ ops.size) (low : ∀ i, i < m' → i = j ∨ L i = true ∨ fli ops ind i = true) (high : ∀ i, i = j ∨ L i = true → i < e' ∨ fli ops ind i = true)
    (quiet : ∀ i, m' ≤ i → i < e' → Quiet (HS i) (HS (i + 1))) (last : e' = ops.size ∨ totOK ops ind e' = true ∧ fli ops ind e' = false) :
    Seg ops W ind n tmS HS val μ0 w0 (fun k => k == j || L k) m' e' μ' (a.put o.dst v') w' := by
  have hj : j < ops.size := (Array.getElem?_eq_some_iff.1 ho).1
  refine ⟨me, eN, ?_, ?_, quiet, last, ?_, ?_, ?_, ?_, hc, ?_⟩
  · intro i hi
    rcases low i hi with h | h | h
    · subst h; simp
    · simp [h]
    · exact .inr h
  · intro i hi
    refine high i ?_
    by_cases q : i = j
    · exact .inl q
    · exact .inr (by simpa [q] using hi)
  · intro k o' hk hLk e2 he2 hb
    by_cases ek : k = j
    · subst ek; rw [ho] at hk; cases hk; simp [hr e2 he2 hb]
    · have : L k = true := by simpa [ek] using hLk
      simp [S.down k o' hk this e2 he2 hb]
  · cases hd : o.dst <;> simp [Act.put, hd, S.tsz]
  · cases hd : o.dst <;> simp [Act.put, hd, S.dfs]
  · intro t
    rw [slots hT hC hext hsz hok htr S.down ho hL hr t]
    have hdok := (htr.step j o ho).1
    cases hd : o.dst with
    | none => simp only [Act.put]; simp only [reduceCtorEq, if_false]; exact VRel.mono hle _ _ (S.tmps t)
    | some d =>
      rw [hd] at hdok
      have hlt : d < a.tmps.size := by rw [S.tsz]; simpa [dstOk] using hdok
      simp only [Act.put, getD_set]
      by_cases q : d = t
      · subst q; rw [if_pos rfl, if_pos ⟨rfl, hlt⟩]; exact hv
      · rw [if_neg (fun k => q (by simpa using k)), if_neg (fun k => q k.1)]; exact VRel.mono hle _ _ (S.tmps t)
  · intro i hi hLi
    have hij : i ≠ j := by intro k; subst k; simp at hLi
    have hLi' : L i = false := by simpa [hij] using hLi
    intro b hb1 hb2
    rw [hx b]
    · exact S.free i hi hLi' b hb1 hb2
    · rcases Nat.lt_or_ge i j with h | h
      · have := HS_le hT hC hext hsz hok htr (i := i + 1) (j := j) (by omega) (by omega)
        exact .inl (by omega)
      · have := HS_le hT hC hext hsz hok htr (i := j + 1) (j := i) (by omega) (by omega)
        exact .inr (by omega)

/-- How far the next quiet piece reaches. -/
theorem next_piece (m : Nat) (hm : m ≤ ops.size) : ∃ e, m ≤ e ∧ e ≤ ops.size ∧ (∀ i, m ≤ i → i < e → Quiet (HS i) (HS (i + 1))) ∧ (e = ops.size ∨ totOK ops ind e = true ∧ fli ops ind e = false) := by
  obtain ⟨d, hd⟩ : ∃ d, d = ops.size - m := ⟨_, rfl⟩
  induction d generalizing m with
  | zero => exact ⟨m, Nat.le_refl _, hm, fun i h1 h2 => by omega, .inl (by omega)⟩
  | succ d ih =>
    by_cases ht : totOK ops ind m = true ∧ fli ops ind m = false
    · exact ⟨m, Nat.le_refl _, hm, fun i h1 h2 => by omega, .inr ht⟩
    · obtain ⟨e, h1, h2, h3, h4⟩ := ih (m + 1) (by omega) (by omega)
      refine ⟨e, by omega, h2, fun i hi1 hi2 => ?_, h4⟩
      by_cases e' : i = m
      · subst e'
        have ho : ops[i]? = some ops[i] := Array.getElem?_eq_getElem (by omega)
        cases hfl : fli ops ind i with
        | false =>
          obtain ⟨_, _, h⟩ := htr.step i _ ho
          rcases h with ⟨_, _, h⟩ | ⟨_, h0, h⟩
          · rw [h]; exact fun _ _ => rfl
          · exact h.1.resolve_right fun k => ht ⟨k.1, hfl⟩
        | true =>
          unfold fli at hfl
          rw [Bool.or_eq_true] at hfl
          rcases hfl with hfl | hfl
          · rw [flt_spec hT hC hext hsz hok htr ho hfl]; exact fun _ _ => rfl
          · exact (ind_spec hT hC hext hsz hok htr ho hfl).1
      · exact h3 i (by omega) hi2

theorem rel_sub {μ : Mu} {H H' : AH} {w : World} (h : Rel μ H' w) (q : ∀ b, (H.blk b).live = true → H'.blk b = H.blk b) : Rel μ H w := by
  refine ⟨h.dom, ?_, ?_, ?_⟩
  · intro b p e ro xs hp hb
    exact h.cells b p e ro xs hp (by rw [q b (by rw [hb]; rfl)]; exact hb)
  · intro b p es hp hb
    exact h.maps b p es hp (by rw [q b (by rw [hb]; rfl)]; exact hb)
  · intro b b' p p' l l' hp hp' hpc
    have := h.inj b b' p p' (by rw [q b l]; exact l) (by rw [q b' l']; exact l') hp hp' hpc
    rw [q b l, q b' l'] at this
    exact this

theorem aop_AOp {tm : Tm} {H H1 : AH} {op : Op} {v : AV} (h : aop T tm H op = some (v, H1)) : AOp T C tm H op v H1 := by
  cases op <;> try exact h
  rename_i c
  obtain ⟨callee, args, ts⟩ := c
  cases callee <;> first | exact h | (simp [aop] at h)

/-- Whatever order is drawn. -/
theorem any_sim {μ0 : Mu} {w0 : World} {Q : Exit → Act → World → Prop}
    (hK : ∀ μ' a' w', Conc μ0 μ' (HS 0) (HS ops.size) w0 w' → TRel μ' n (tmS ops.size) a' → Q .normal a' w') :
    ∀ (fuel : Nat) (listed : Array Bool) (L : Nat → Bool) (m e : Nat) (μ : Mu) (a : Act) (w : World), Seg ops W ind n tmS HS val μ0 w0 L m e μ a w → (∀ i, L i = listed.getD i false) → listed.size = ops.size →
      ((List.range ops.size).filter fun i => !L i).length ≤ fuel → wpAny P .any ops Q fuel listed a w := by
  have done : ∀ (L : Nat → Bool) (m e : Nat) (μ : Mu) (a : Act) (w : World), Seg ops W ind n tmS HS val μ0 w0 L m e μ a w → (∀ i, i < ops.size → L i = true) → Q .normal a w := by
    intro L m e μ a w S hall
    have he : e = ops.size := by
      rcases Nat.lt_or_ge e ops.size with h | h
      · have h2 := S.last.resolve_left (by omega)
        rcases S.high e (hall e h) with h3 | h3
        · omega
        · rw [h2.2] at h3; cases h3
      · have := S.eN; omega
    subst he
    have hM : MX W HS ops.size ops.size = HS ops.size := MX_top _ _ _
    refine hK μ a w (hM ▸ S.conc) ⟨S.tsz, S.dfs, fun t => ?_⟩
    rw [tmS_look hT hC hext hsz hok htr t ops.size (Nat.le_refl _), ← look_ext (p := L) _ fun k hk _ => hall k hk]
    exact S.tmps t
  -- where none is ready, all are listed
  have full : ∀ (listed : Array Bool) (L : Nat → Bool), (∀ i, L i = listed.getD i false) → listed.size = ops.size → Region.ready .any ops listed = [] → ∀ i, i < ops.size → L i = true := by
    intro listed L hL hs hr i
    induction i using Nat.strongRecOn with
    | _ i ih =>
      intro hi
      cases hLi : L i with
      | true => rfl
      | false =>
        exfalso
        have ho : ops[i]? = some ops[i] := Array.getElem?_eq_getElem hi
        have : i ∈ Region.ready .any ops listed := by
          refine mem_ready.2 ⟨?_, ops[i], ho, fun e he hb => ?_⟩
          · rw [hL i] at hLi
            simp only [Array.getD_eq_getD_getElem?] at hLi ⊢
            have hlt : i < listed.size := by omega
            simp [hlt] at hLi ⊢
            exact hLi
          · have hlt := regOK_edges hok ho e he hb
            rw [← hL]
            exact ih e.on hlt (by omega)
        rw [hr] at this; cases this
  intro fuel
  induction fuel with
  | zero =>
    intro listed L m e μ a w S hL hs hcnt
    have hall : ∀ i, i < ops.size → L i = true := by
      intro i hi
      cases hLi : L i with
      | true => rfl
      | false =>
        exfalso
        have : i ∈ (List.range ops.size).filter fun i => !L i := List.mem_filter.2 ⟨List.mem_range.2 hi, by simp [hLi]⟩
        have := List.length_pos_of_mem this
        omega
    refine ⟨?_, done L m e μ a w S hall⟩
    cases hr : Region.ready .any ops listed with
    | nil => rfl
    | cons i r =>
      exfalso
      obtain ⟨h1, o, ho, _⟩ := mem_ready.1 (show i ∈ Region.ready .any ops listed by rw [hr]; simp)
      have hi := (Array.getElem?_eq_some_iff.1 ho).1
      have h2 := hall i hi
      rw [hL i] at h2
      have hlt : i < listed.size := by omega
      simp [Array.getD_eq_getD_getElem?, hlt] at h1 h2
      rw [h1] at h2; cases h2
  | succ fuel ih =>
    intro listed L m e μ a w S hL hs hcnt
    refine ⟨fun hr => done L m e μ a w S (full listed L hL hs hr), fun i hi => ?_⟩
    obtain ⟨h1, o, ho, hed⟩ := mem_ready.1 hi
    have hi' := (Array.getElem?_eq_some_iff.1 ho).1
    have hlt : i < listed.size := by omega
    have hLi : L i = false := by
      rw [hL i]
      simp [Array.getD_eq_getD_getElem?, hlt] at h1 ⊢
      exact h1
    have hr : ∀ e ∈ o.after, Region.binds .any e = true → L e.on = true := fun e he hb => by rw [hL]; exact hed e he hb
    have hL' : ∀ k, (k == i || L k) = (listed.setIfInBounds i true).getD k false := by
      intro k
      rw [hL k]
      simp only [Array.getD_eq_getD_getElem?, Array.getElem?_setIfInBounds]
      by_cases e : k = i
      · subst e; simp [hlt]
      · simp [e, Ne.symm e]
    have hcnt' : ((List.range ops.size).filter fun k => !(k == i || L k)).length ≤ fuel := by
      have := filter_lt (p := fun k => !L k) (q := fun k => !(k == i || L k)) (List.range ops.size) (by intro x hx; simp at hx ⊢; exact hx.2) ⟨i, List.mem_range.2 hi', by simp [hLi], by simp⟩
      omega
    have hsee : ∀ t, t ∈ o.looksAt ops → VRel μ (tmS i t) (a.tmps.getD t undef) := by
      intro t ht
      rw [← sees hT hC hext hsz hok htr S.down ho hLi hr (.inl ht)]
      exact S.tmps t
    have hlook : ∀ t, t ∈ looks o → VRel μ (tmS i t) (a.tmps.getD t undef) := fun t ht => hsee t (by unfold looks at ht; unfold Oper.looksAt; exact List.mem_append_left _ ht)
    have hfr := S.free i hi' hLi
    have s1 := HS_mono hT hC hext hsz hok htr hi'
    have s2 : (HS (i + 1)).size ≤ (HS ops.size).size := HS_le hT hC hext hsz hok htr (by omega) (Nat.le_refl _)
    have s0 : (HS 0).size ≤ (HS i).size := HS_le hT hC hext hsz hok htr (by omega) (by omega)
    unfold wpOp
    rw [ho]
    simp only
    by_cases hflt : flt ops i = true
    · -- on slots alone
      have hflo : floats o.op = true := by simpa [flt, ho] using hflt
      have next : ∀ μ' v' w', Conc μ μ' (MX W HS ops.size e) (MX W HS ops.size e) w w' → VRel μ' (val i) v' → wpAny P .any ops Q fuel (listed.setIfInBounds i true) (a.put o.dst v') w' := fun μ' v' w' hc hv =>
        ih _ _ m e μ' _ w' (seg_put hT hC hext hsz hok htr S ho hLi hr (hc.le fun b h1 h2 => by omega) (fun b _ => hc.ext b (by omega)) hv (S.conc.trans hc) S.me S.eN (fun k hk => .inr (S.low k hk))
          (fun k hk => by rcases hk with hk | hk; exact .inr (by subst hk; simp [fli, hflt]); exact S.high k hk) S.quiet S.last) hL' (by simp [hs]) hcnt'
      obtain ⟨_, _, hstep⟩ := htr.step i o ho
      rcases hstep with ⟨hw, hv, hH⟩ | ⟨hw, h0, _⟩
      · rw [wanted_rel hw hsee]
        exact next μ undef w (.refl S.conc.rel) (by rw [hv]; exact ⟨#[], rfl, rfl⟩)
      · rw [wanted_rel hw hsee]
        exact .inl (op_sim hT hC hext S.conc.rel hlook ((floats_spec hflo h0).2 _) (fun b h1 h2 => by omega) next)
    by_cases hind : ind.contains i = true
    · -- independent of what is written
      obtain ⟨hq, hnew, hstep⟩ := ind_spec hT hC hext hsz hok htr ho hind
      have hdl : ∀ (X : AH) b, ((X.drop W).blk b).live = true → ¬ W b ∧ (X.drop W).blk b = X.blk b := by
        intro X b hl
        by_cases hW : W b
        · simp only [AH.drop, if_pos hW] at hl; cases hl
        · exact ⟨hW, by simp only [AH.drop, if_neg hW]⟩
      have hR : Rel μ ((HS i).drop W) w := rel_sub hT hC hext hsz hok htr S.conc.rel fun b hl => by
        obtain ⟨hW, e1⟩ := hdl _ b hl
        rw [e1, MX_out hT hC hext hsz hok htr hW (by omega) ((HS i).lt (by rw [← e1]; exact hl))]
      have next : ∀ μ' v' w', Conc μ μ' ((HS i).drop W) ((HS (i + 1)).drop W) w w' → VRel μ' (val i) v' → wpAny P .any ops Q fuel (listed.setIfInBounds i true) (a.put o.dst v') w' := by
        intro μ' v' w' hc hv
        have hle := hc.le hfr
        have hmix : Conc μ0 μ' (HS 0) (MX W HS ops.size e) w0 w' := conc_mix S.conc hc s2 rfl
          (fun b hb => by
            have hb : b < (HS i).size := hb
            by_cases hW : W b
            · exact .inr ⟨by simp only [AH.drop, if_pos hW]; rfl, rfl⟩
            · left
              simp only [AH.drop, if_neg hW]
              rw [MX_out hT hC hext hsz hok htr hW (by omega) hb, hq b hb]; exact ⟨rfl, rfl⟩)
          (fun b h1 h2 => by
            have hW := hnew b h1 h2
            refine ⟨?_, hfr b h1 h2⟩
            simp only [AH.drop, if_neg hW]
            exact MX_out hT hC hext hsz hok htr hW (by omega) h2)
          (fun b _ => .inl rfl) s0
        exact ih _ _ m e μ' _ w' (seg_put hT hC hext hsz hok htr S ho hLi hr hle (fun b hb => hc.ext b hb) hv hmix S.me S.eN (fun k hk => .inr (S.low k hk))
          (fun k hk => by rcases hk with hk | hk; exact .inr (by subst hk; simp [fli]; exact .inr (by simpa using hind)); exact S.high k hk) S.quiet S.last) hL' (by simp [hs]) hcnt'
      rcases hstep with ⟨hw, hv, hH⟩ | ⟨hw, h0⟩
      · rw [wanted_rel hw hsee]
        exact next μ undef w (by rw [hH]; exact .refl hR) (by rw [hv]; exact ⟨#[], rfl, rfl⟩)
      · rw [wanted_rel hw hsee]
        exact .inl (op_sim hT hC hext hR hlook (aop_AOp hT hC hext hsz hok htr h0) hfr next)
    · have hfl : fli ops ind i = false := by simp only [Bool.not_eq_true] at hflt hind; simp [fli, hflt]; simpa using hind
      have hm : m ≤ i := by
        rcases Nat.lt_or_ge i m with h | h
        · rcases S.low i h with k | k
          · rw [k] at hLi; cases hLi
          · rw [hfl] at k; cases k
        · exact h
      -- where it stands
      have hie : i < e ∨ i = e := by
        rcases Nat.lt_or_ge i e with h | h
        · exact .inl h
        · right
          have heN : e < ops.size := by omega
          have ht := S.last.resolve_left (by omega)
          rcases Nat.lt_or_ge e i with h' | h'
          · exfalso
            have := totOK_spec ht.1 hi' (by omega) hfl
            rw [if_neg (by omega)] at this
            have hLe := ordered_ready S.down ho hr (by omega) this
            rcases S.high e hLe with k | k
            · omega
            · rw [ht.2] at k; cases k
          · omega
      have hle' : i ≤ e := by omega
      have hR : Rel μ (HS i) w := rel_sub hT hC hext hsz hok htr S.conc.rel fun b hl => MX_eq hT hC hext hsz hok htr S.quiet S.eN hm hle' ((HS i).lt hl)
      -- behind it
      have next : ∀ μ' v' w', Conc μ μ' (HS i) (HS (i + 1)) w w' → VRel μ' (val i) v' → wpAny P .any ops Q fuel (listed.setIfInBounds i true) (a.put o.dst v') w' := by
        intro μ' v' w' hc hv
        have hle := hc.le hfr
        rcases hie with h | h
        · have hmix : Conc μ0 μ' (HS 0) (MX W HS ops.size e) w0 w' := conc_mix S.conc hc s2 rfl
            (fun b hb => .inl ⟨(MX_eq hT hC hext hsz hok htr S.quiet S.eN hm hle' hb).symm, MX_eq hT hC hext hsz hok htr S.quiet S.eN (by omega) (by omega) (by omega)⟩)
            (fun b h1 h2 => ⟨MX_eq hT hC hext hsz hok htr S.quiet S.eN (by omega) (by omega) h2, hfr b h1 h2⟩) (fun b _ => .inl rfl) s0
          exact ih _ _ m e μ' _ w' (seg_put hT hC hext hsz hok htr S ho hLi hr hle (fun b hb => hc.ext b hb) hv hmix S.me S.eN (fun k hk => .inr (S.low k hk))
            (fun k hk => by rcases hk with hk | hk; exact .inl (by omega); exact S.high k hk) S.quiet S.last) hL' (by simp [hs]) hcnt'
        · subst h
          have ht := S.last.resolve_left (by omega)
          have hall : ∀ k, k < i → L k = true ∨ fli ops ind k = true := by
            intro k hk
            cases hk2 : fli ops ind k with
            | true => exact .inr rfl
            | false =>
              have := totOK_spec ht.1 (j := k) (by omega) (by omega) hk2
              rw [if_pos hk] at this
              exact .inl (ordered_ready S.down ho hr (by omega) this)
          obtain ⟨e', k1, k2, k3, k4⟩ := next_piece hT hC hext hsz hok htr (i + 1) (by omega)
          have s3 : (HS (i + 1)).size ≤ (HS e').size := HS_le hT hC hext hsz hok htr k1 k2
          have s4 : (HS e').size ≤ (HS ops.size).size := HS_le hT hC hext hsz hok htr k2 (Nat.le_refl _)
          have hmix : Conc μ0 μ' (HS 0) (MX W HS ops.size e') w0 w' := conc_mix S.conc hc s2 rfl
            (fun b hb => .inl ⟨(MX_eq hT hC hext hsz hok htr S.quiet S.eN hm (Nat.le_refl _) hb).symm, MX_eq hT hC hext hsz hok htr k3 k2 (Nat.le_refl _) k1 (by omega)⟩)
            (fun b h1 h2 => ⟨MX_eq hT hC hext hsz hok htr k3 k2 (Nat.le_refl _) k1 h2, hfr b h1 h2⟩)
            (fun b hb => by
              by_cases hW : W b
              · by_cases hb2 : b < (HS e').size
                · right
                  obtain ⟨k, a1, a2, a3, a4⟩ := born hT hC hext hsz hok htr k1 k2 hb hb2
                  have hkN : k < ops.size := by omega
                  cases hLk : L k with
                  | false => exact S.free k hkN hLk b a3 a4
                  | true =>
                    exfalso
                    rcases S.high k hLk with q | q
                    · omega
                    · have hok' : ops[k]? = some ops[k] := Array.getElem?_eq_getElem hkN
                      unfold fli at q
                      rw [Bool.or_eq_true] at q
                      rcases q with q | q
                      · rw [flt_spec hT hC hext hsz hok htr hok' q] at a4; omega
                      · exact (ind_spec hT hC hext hsz hok htr hok' q).2.1 b a3 a4 hW
                · left
                  simp only [MX, if_pos hW]
                  rw [(HS e').out b (by omega), (HS i).out b (by omega)]
              · left
                simp only [MX, if_neg hW]) s0
          exact ih _ _ _ e' μ' _ w' (seg_put hT hC hext hsz hok htr S ho hLi hr hle (fun b hb => hc.ext b hb) hv hmix k1 k2
            (fun k hk => by
              by_cases q : k = i
              · exact .inl q
              · exact .inr (hall k (by omega)))
            (fun k hk => by
              rcases hk with hk | hk
              · exact .inl (by omega)
              · exact (S.high k hk).imp (fun h => by omega) id) k3 k4) hL' (by simp [hs]) hcnt'
      obtain ⟨_, _, hstep⟩ := htr.step i o ho
      rcases hstep with ⟨hw, hv, hH⟩ | ⟨hw, h0, _⟩
      · rw [wanted_rel hw hsee]
        exact next μ undef w (by rw [hH]; exact .refl hR) (by rw [hv]; exact ⟨#[], rfl, rfl⟩)
      · rw [wanted_rel hw hsee]
        exact .inl (op_sim hT hC hext hR hlook h0 hfr next)

end

section
variable {P : Program} {T : TT} (hT : ∀ t d, T t = some d → TDOK P t d) {C : CT} (hC : CallSim P C)
  (hext : ∀ f, (∀ args H v H', C f args H v H' → ∃ fn, P.funcs[f]? = some fn ∧ fn.body.isSome = true ∧ (fn.name == "runtime.NumGoroutine") = false))
  (hsz : ∀ f args H v H', C f args H v H' → H.size ≤ H'.size)
include hT hC hext hsz

/-- A region that draws its order. -/
theorem draw_sim (hm : P.follows .mixedOrders = true) {n id : Nat} {ops : Array Oper} {W : Nat → Prop} {ind : List Nat} (hok : regOK ops = true) {μ : Mu} {H H' : AH} {w : World} {tm tm' : Tm} {a : Act} (hR : Rel μ H w) (hA : TRel μ n tm a)
    (h : AOps T C n ops (.yes W ind) (totOK ops ind) 0 ops.toList tm H tm' H') (hf : Free μ H.size H'.size) {Q : Exit → Act → World → Prop}
    (hK : ∀ μ' a' w', Conc μ μ' H H' w w' → TRel μ' n tm' a' → Q .normal a' w') : (Code.region id ops true).wp P Q a w := by
  obtain ⟨tmS, HS, val, e1, e2, e3, e4, hst⟩ := trace_of ops.toList 0 tm H tm' H' h
  simp only [Nat.zero_add, Array.length_toList] at e3 e4 hst
  have htr : Trace T C n ops W ind (totOK ops ind) tmS HS val := ⟨fun k o ho => hst k o (by simpa using ho)⟩
  refine wp_region_any hm ?_
  have hlk : ∀ t k, look ops (tmS 0) val (fun _ => false) t k = tmS 0 t := by
    intro t k
    induction k with
    | zero => rfl
    | succ k ih => show (if _ then _ else _) = _; rw [if_neg (by simp)]; exact ih
  obtain ⟨e, k1, k2, k3, k4⟩ := next_piece hT hC hext hsz hok htr 0 (by omega)
  have s1 : (HS 0).size ≤ (HS ops.size).size := HS_le hT hC hext hsz hok htr (by omega) (Nat.le_refl _)
  have hf' : Free μ (HS 0).size (HS ops.size).size := by rw [e2, e4]; exact hf
  have hmx : ∀ b p, μ b = some p → b < (MX W HS ops.size e).size → b < (HS 0).size := by
    intro b p hp hb
    rcases Nat.lt_or_ge b (HS 0).size with k | k
    · exact k
    · rw [hf' b k hb] at hp; cases hp
  have hme : ∀ b, b < (HS 0).size → (MX W HS ops.size e).blk b = (HS 0).blk b := fun b hb => MX_eq hT hC hext hsz hok htr k3 k2 (Nat.le_refl _) k1 hb
  have hd0 : Conc μ μ (HS 0) (HS 0) w { w with drawn := w.drawn + 1 } := by rw [e2]; exact conc_drew hR
  have hc0 : Conc μ μ (HS 0) (MX W HS ops.size e) w { w with drawn := w.drawn + 1 } := by
    refine ⟨⟨hd0.rel.dom, ?_, ?_, ?_⟩, fun _ _ => rfl, s1, hd0.wsz, hd0.os, hd0.tape, hd0.output, ?_, hd0.frame, ?_, ?_, ?_⟩
    · intro b p e2 ro xs hp hb
      exact hd0.rel.cells b p e2 ro xs hp (by rw [← hme b (hmx b p hp ((MX W HS ops.size e).lt (by rw [hb]; rfl)))]; exact hb)
    · intro b p es hp hb
      exact hd0.rel.maps b p es hp (by rw [← hme b (hmx b p hp ((MX W HS ops.size e).lt (by rw [hb]; rfl)))]; exact hb)
    · intro b b' p p' l l' hp hp' hpc
      have q1 := hme b (hmx b p hp ((MX W HS ops.size e).lt l))
      have q2 := hme b' (hmx b' p' hp' ((MX W HS ops.size e).lt l'))
      rw [q1] at l ⊢; rw [q2] at l' ⊢
      exact hd0.rel.inj b b' p p' l l' hp hp' hpc
    · intro b p h1 h2 hp
      have := hmx b p hp h2; omega
    · intro b hb _; exact hme b hb
    · intro b hb hl; rw [hme b hb]; exact hl
    · intro b hb hl; rw [hme b hb]; exact hl
  have S : Seg ops W ind n tmS HS val μ w (fun _ => false) 0 e μ a { w with drawn := w.drawn + 1 } := by
    refine ⟨k1, k2, fun i hi => by omega, fun i hi => by simp at hi, k3, k4, fun j o _ hj => by simp at hj, hA.size, hA.defers, fun t => by rw [hlk, e1]; exact hA.rel t, hc0, ?_⟩
    intro i hi _ b hb1 hb2
    have g1 := HS_le hT hC hext hsz hok htr (i := 0) (j := i) (by omega) (by omega)
    have g2 := HS_le hT hC hext hsz hok htr (i := i + 1) (j := ops.size) (by omega) (Nat.le_refl _)
    exact hf' b (by omega) (by omega)
  refine any_sim hT hC hext hsz hok htr (μ0 := μ) (w0 := w) (fun μ' a' w' hc ht => hK μ' a' w' (by rw [← e2, ← e4]; exact hc) (by rw [← e3]; exact ht)) _ _ _ _ _ _ _ _ S ?_ (by simp) ?_
  · intro i
    simp [Array.getD_eq_getD_getElem?, Array.getElem?_replicate]
    split <;> rfl
  · refine Nat.le_trans (List.length_filter_le _ _) (by simp)

end
end Go.Proofs.Ytopbfmhajbjepaa
