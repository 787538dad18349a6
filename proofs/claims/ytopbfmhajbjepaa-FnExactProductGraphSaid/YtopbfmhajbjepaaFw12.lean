/- A region that draws its order: the simulation. -/
import Derived.Test.YtopbfmhajbjepaaFw11
namespace Go.Proofs.Ytopbfmhajbjepaa
open Go
set_option linter.unusedSectionVars false
set_option linter.unusedSimpArgs false
set_option linter.unusedVariables false

/-- How far a region that draws has come: all below m, none from e on, between them whatever the edges let. -/
structure Seg (ops : Array Oper) (n : Nat) (tmS : Nat → Tm) (HS : Nat → AH) (val : Nat → AV) (μ0 : Mu) (w0 : World) (L : Nat → Bool) (m e : Nat) (μ : Mu) (a : Act) (w : World) : Prop where
  me : m ≤ e
  eN : e ≤ ops.size
  low : ∀ i, i < m → L i = true ∨ flt ops i = true
  high : ∀ i, L i = true → i < e ∨ flt ops i = true
  quiet : ∀ i, m ≤ i → i < e → Quiet (HS i) (HS (i + 1))
  last : e = ops.size ∨ totOK ops e = true ∧ flt ops e = false
  down : Down ops L
  tsz : a.tmps.size = n
  dfs : a.defers = []
  tmps : ∀ t, VRel μ (look ops (tmS 0) val L t ops.size) (a.tmps.getD t undef)
  conc : Conc μ0 μ (HS 0) (HS e) w0 w
  free : ∀ i, m ≤ i → i < e → L i = false → Free μ (HS i).size (HS (i + 1)).size
  free2 : Free μ (HS e).size (HS ops.size).size
  sep : ∀ i, m ≤ i → i ≤ e → ∀ b b' p p', b < (HS i).size → (HS i).size ≤ b' → b' < (HS e).size → μ b = some p → μ b' = some p' → p.c ≠ p'.c

section
variable {P : Program} {T : TT} (hT : ∀ t d, T t = some d → TDOK P t d) {C : CT} (hC : CallSim P C)
  (hext : ∀ f, (∀ args H v H', C f args H v H' → ∃ fn, P.funcs[f]? = some fn ∧ fn.body.isSome = true ∧ (fn.name == "runtime.NumGoroutine") = false))
  (hsz : ∀ f args H v H', C f args H v H' → H.size ≤ H'.size)
  {n : Nat} {ops : Array Oper} {tmS : Nat → Tm} {HS : Nat → AH} {val : Nat → AV} (hok : regOK ops = true) (htr : Trace T C n ops (totOK ops) tmS HS val)
include hT hC hext hsz hok htr

theorem tmS_look (t : Tmp) : ∀ j, j ≤ ops.size → tmS j t = look ops (tmS 0) val (fun _ => true) t j
  | 0, _ => rfl
  | j + 1, h => by
    have hj : j < ops.size := by omega
    have ho : ops[j]? = some ops[j] := Array.getElem?_eq_getElem hj
    obtain ⟨_, h2, _⟩ := htr.step j _ ho
    rw [h2]
    show _ = (if _ then _ else _)
    simp only [ho, Option.bind_some, true_and]
    cases hd : ops[j].dst with
    | none =>
      simp only [Tm.put]
      simp only [reduceCtorEq, if_false]
      exact tmS_look t j (by omega)
    | some d =>
      simp only [Tm.put, Tm.upd, Option.some.injEq]
      by_cases e : t = d
      · rw [if_pos e, if_pos e.symm]
      · rw [if_neg e, if_neg (fun k => e k.symm)]; exact tmS_look t j (by omega)

theorem HS_mono {i : Nat} (hi : i < ops.size) : (HS i).size ≤ (HS (i + 1)).size := by
  obtain ⟨_, _, h⟩ := htr.step i _ (Array.getElem?_eq_getElem hi)
  rcases h with ⟨_, _, h⟩ | ⟨_, h, _⟩
  · rw [h]; exact Nat.le_refl _
  · exact op_size hsz h

theorem HS_le {i : Nat} : ∀ {j : Nat}, i ≤ j → j ≤ ops.size → (HS i).size ≤ (HS j).size
  | 0, h, _ => by have : i = 0 := by omega
                  subst this; exact Nat.le_refl _
  | j + 1, h, hj => by
    by_cases e : i = j + 1
    · subst e; exact Nat.le_refl _
    · exact Nat.le_trans (HS_le (j := j) (by omega) (by omega)) (HS_mono hT hC hext hsz hok htr (by omega))

theorem HS_quiet {m e : Nat} (hq : ∀ i, m ≤ i → i < e → Quiet (HS i) (HS (i + 1))) (he : e ≤ ops.size) {i : Nat} (hm : m ≤ i) : ∀ {j : Nat}, i ≤ j → j ≤ e → Quiet (HS i) (HS j)
  | 0, h, _ => by have : i = 0 := by omega
                  subst this; exact fun _ _ => rfl
  | j + 1, h, hj => by
    by_cases e' : i = j + 1
    · subst e'; exact fun _ _ => rfl
    · intro b hb
      have h1 := HS_quiet hq he hm (j := j) (by omega) (by omega) b hb
      have h2 := hq j (by omega) (by omega) b (Nat.lt_of_lt_of_le hb (HS_le hT hC hext hsz hok htr (by omega) (by omega)))
      rw [h2, h1]

/-- What an operation that is ready sees. -/
theorem sees {L : Nat → Bool} (hd : Down ops L) {j : Nat} {o : Oper} (ho : ops[j]? = some o) (hL : L j = false) (hr : ∀ e ∈ o.after, Region.binds .any e = true → L e.on = true)
    {t : Tmp} (ht : t ∈ o.looksAt ops ∨ o.dst = some t) : look ops (tmS 0) val L t ops.size = tmS j t := by
  have hj : j < ops.size := (Array.getElem?_eq_some_iff.1 ho).1
  rw [tmS_look hT hC hext hsz hok htr t j (by omega), ← look_cut j ops.size (by omega)]
  refine look_ext _ fun k hk hdk => ?_
  have hok' : ops[k]? = some ops[k] := Array.getElem?_eq_getElem hk
  rw [hok'] at hdk
  simp only [Option.bind_some] at hdk
  rcases Nat.lt_trichotomy k j with h | h | h
  · rcases regOK_spec hok h hok' ho with ha | hb
    · exfalso
      obtain ⟨a1, a2, a3⟩ := Oper.apart_spec ha
      rcases ht with ht | ht
      · exact a1 t hdk ht
      · exact a2 t hdk ht
    · rw [ordered_ready hd ho hr (by omega) hb]; simp [h]
  · subst h; rw [hL]; simp
  · rcases regOK_spec hok h ho hok' with ha | hb
    · exfalso
      obtain ⟨a1, a2, a3⟩ := Oper.apart_spec ha
      rcases ht with ht | ht
      · exact a3 t hdk ht
      · exact a2 t ht hdk
    · have : L k = false := by
        cases e : L k
        · rfl
        · rw [ordered_down hd e hb] at hL; cases hL
      rw [this]; simp; omega

/-- The slots behind it. -/
theorem slots {L : Nat → Bool} (hd : Down ops L) {j : Nat} {o : Oper} (ho : ops[j]? = some o) (hL : L j = false) (hr : ∀ e ∈ o.after, Region.binds .any e = true → L e.on = true) (t : Tmp) :
    look ops (tmS 0) val (fun k => k == j || L k) t ops.size = if o.dst = some t then val j else look ops (tmS 0) val L t ops.size := by
  have hj : j < ops.size := (Array.getElem?_eq_some_iff.1 ho).1
  split
  · rename_i hdt
    rw [look_ext (q := fun k => decide (k < j + 1)) _ fun k hk hdk => ?_, look_cut (j + 1) ops.size (by omega)]
    · show (if _ then _ else _) = _
      rw [if_pos ⟨rfl, by rw [ho]; exact hdt⟩]
    · have hok' : ops[k]? = some ops[k] := Array.getElem?_eq_getElem hk
      rw [hok'] at hdk
      simp only [Option.bind_some] at hdk
      rcases Nat.lt_trichotomy k j with h | h | h
      · rcases regOK_spec hok h hok' ho with ha | hb
        · exact absurd hdt ((Oper.apart_spec ha).2.1 t hdk)
        · rw [ordered_ready hd ho hr (by omega) hb]; simp; omega
      · subst h; simp
      · rcases regOK_spec hok h ho hok' with ha | hb
        · exact absurd hdk ((Oper.apart_spec ha).2.1 t hdt)
        · have : L k = false := by
            cases e : L k
            · rfl
            · rw [ordered_down hd e hb] at hL; cases hL
          have h1 : (k == j) = false := by simp; omega
          have h2 : decide (k < j + 1) = false := by simp; omega
          rw [this, h1, h2]; rfl
  · rename_i hdt
    refine look_ext _ fun k hk hdk => ?_
    by_cases e : k = j
    · subst e; rw [ho] at hdk; exact absurd (by simpa using hdk) hdt
    · simp [e]

/-- One more operation between m and e. -/
theorem seg_mid {μ0 : Mu} {w0 : World} {L : Nat → Bool} {m e : Nat} {μ : Mu} {a : Act} {w : World} (S : Seg ops n tmS HS val μ0 w0 L m e μ a w) {j : Nat} {o : Oper} (ho : ops[j]? = some o)
    (hm : m ≤ j) (he : j < e) (hL : L j = false) (hr : ∀ e ∈ o.after, Region.binds .any e = true → L e.on = true) {μ' : Mu} {v' : Value} {w' : World}
    (hc : Conc μ μ' (HS j) (HS (j + 1)) w w') (hv : VRel μ' (val j) v') : Seg ops n tmS HS val μ0 w0 (fun k => k == j || L k) m e μ' (a.put o.dst v') w' := by
  have hj : j < ops.size := (Array.getElem?_eq_some_iff.1 ho).1
  have hfr := S.free j hm he hL
  have hle := hc.le hfr
  have q1 : Quiet (HS j) (HS e) := HS_quiet hT hC hext hsz hok htr S.quiet S.eN hm (by omega) (Nat.le_refl _)
  have q2 : Quiet (HS (j + 1)) (HS e) := HS_quiet hT hC hext hsz hok htr S.quiet S.eN (by omega) (by omega) (Nat.le_refl _)
  have qj := S.quiet j hm he
  have s1 : (HS j).size ≤ (HS (j + 1)).size := HS_mono hT hC hext hsz hok htr hj
  have s2 : (HS (j + 1)).size ≤ (HS e).size := HS_le hT hC hext hsz hok htr (by omega) S.eN
  have s0 : (HS 0).size ≤ (HS e).size := HS_le hT hC hext hsz hok htr (by omega) S.eN
  -- a new block lies in new memory
  have fresh : ∀ b p, (HS j).size ≤ b → b < (HS (j + 1)).size → μ' b = some p → w.heap.size ≤ p.c := by
    intro b p h1 h2 hp
    rcases hc.fresh b p h1 h2 hp with h | ⟨b0, p0, c1, c2, c3, c4, c5, c6⟩
    · exact h
    · rw [qj b0 c1, c2] at c4; cases c4
  have old : ∀ b, (b < (HS j).size ∨ (HS (j + 1)).size ≤ b) → μ' b = μ b := hc.ext
  have domw : ∀ b p, μ b = some p → p.c < w.heap.size := S.conc.rel.dom
  -- what lies elsewhere stays
  have stays : ∀ b p, (HS (j + 1)).size ≤ b → b < (HS e).size → μ b = some p → w'.heap[p.c]? = w.heap[p.c]? := by
    intro b p h1 h2 hp
    refine hc.frame p.c (domw b p hp) fun b0 p0 c1 c2 c3 => ?_
    exact absurd c3 (S.sep j hm (by omega) b0 b p0 p c1 (by omega) h2 c2 hp)
  have hrel : Rel μ' (HS e) w' := by
    refine ⟨hc.rel.dom, ?_, ?_, ?_⟩
    · intro b p e' ro xs hp hb
      have hlt := (HS e).lt (b := b) (by rw [hb]; rfl)
      by_cases hbj : b < (HS (j + 1)).size
      · exact hc.rel.cells b p e' ro xs hp (by rw [← q2 b hbj]; exact hb)
      · rw [old b (.inr (by omega))] at hp
        obtain ⟨h1, h2, arr, t, fz, h3, h4, h5, h6⟩ := S.conc.rel.cells b p e' ro xs hp hb
        refine ⟨h1, h2, arr, t, fz, by rw [stays b p (by omega) hlt hp]; exact h3, h4, h5, fun i x hi => ?_⟩
        obtain ⟨v, hv, hr⟩ := h6 i x hi
        exact ⟨v, hv, VRel.mono hle _ _ hr⟩
    · intro b p es hp hb
      have hlt := (HS e).lt (b := b) (by rw [hb]; rfl)
      by_cases hbj : b < (HS (j + 1)).size
      · exact hc.rel.maps b p es hp (by rw [← q2 b hbj]; exact hb)
      · rw [old b (.inr (by omega))] at hp
        obtain ⟨ents, cl, h1, h2, h3, h4⟩ := S.conc.rel.maps b p es hp hb
        refine ⟨ents, cl, by rw [stays b p (by omega) hlt hp]; exact h1, h2, h3, fun i x hi => ?_⟩
        obtain ⟨y, hy, hk, hv⟩ := h4 i x hi
        exact ⟨y, hy, VRel.mono hle _ _ hk, VRel.mono hle _ _ hv⟩
    · intro b b' p p' l l' hp hp' hpc
      have hlt := (HS e).lt l
      have hlt' := (HS e).lt l'
      by_cases hb : b < (HS j).size ∨ (HS (j + 1)).size ≤ b
      · by_cases hb' : b' < (HS j).size ∨ (HS (j + 1)).size ≤ b'
        · rw [old b hb] at hp; rw [old b' hb'] at hp'
          exact S.conc.rel.inj b b' p p' l l' hp hp' hpc
        · rw [old b hb] at hp
          have := fresh b' p' (by omega) (by omega) hp'
          have := domw b p hp
          omega
      · by_cases hb' : b' < (HS j).size ∨ (HS (j + 1)).size ≤ b'
        · rw [old b' hb'] at hp'
          have := fresh b p (by omega) (by omega) hp
          have := domw b' p' hp'
          omega
        · have := hc.rel.inj b b' p p' (by rw [← q2 b (by omega)]; exact l) (by rw [← q2 b' (by omega)]; exact l') hp hp' hpc
          rw [← q2 b (by omega), ← q2 b' (by omega)] at this
          exact this
  refine ⟨S.me, S.eN, fun i hi => (S.low i hi).imp (fun h => by simp [h]) id, ?_, S.quiet, S.last, ?_, ?_, ?_, ?_, ?_, ?_, ?_, ?_⟩
  · intro i hi
    by_cases e' : i = j
    · exact .inl (by omega)
    · exact S.high i (by simpa [e'] using hi)
  · intro k o' hk hLk e' he' hb
    by_cases ek : k = j
    · subst ek; rw [ho] at hk; cases hk; simp [hr e' he' hb]
    · have : L k = true := by simpa [ek] using hLk
      simp [S.down k o' hk this e' he' hb]
  · cases hd : o.dst <;> simp [Act.put, hd, S.tsz]
  · cases hd : o.dst <;> simp [Act.put, hd, S.dfs]
  · intro t
    rw [slots hT hC hext hsz hok htr S.down ho hL hr t]
    have hdok := (htr.step j o ho).1
    cases hd : o.dst with
    | none => simp only [Act.put]; simp only [reduceCtorEq, if_false]; exact VRel.mono hle _ _ (S.tmps t)
    | some d =>
      rw [hd] at hdok
      have hlt : d < a.tmps.size := by rw [S.tsz]; simpa [dstOk] using hdok
      simp only [Act.put, getD_set]
      by_cases e' : d = t
      · subst e'; rw [if_pos rfl, if_pos ⟨rfl, hlt⟩]; exact hv
      · rw [if_neg (fun k => e' (by simpa using k)), if_neg (fun k => e' k.1)]; exact VRel.mono hle _ _ (S.tmps t)
  · refine ⟨hrel, ?_, s0, Nat.le_trans S.conc.wsz hc.wsz, hc.os.trans S.conc.os, hc.tape.trans S.conc.tape, hc.output.trans S.conc.output, ?_, ?_, S.conc.ro, S.conc.dead, S.conc.nro⟩
    · intro b hb
      rw [old b, S.conc.ext b hb]
      rcases hb with hb | hb
      · exact .inl (Nat.lt_of_lt_of_le hb (HS_le hT hC hext hsz hok htr (by omega) (by omega)))
      · exact .inr (by omega)
    · intro b p h1 h2 hp
      by_cases hb : b < (HS j).size ∨ (HS (j + 1)).size ≤ b
      · rw [old b hb] at hp; exact S.conc.fresh b p h1 h2 hp
      · exact .inl (Nat.le_trans S.conc.wsz (fresh b p (by omega) (by omega) hp))
    · intro c hcw hcb
      rw [← S.conc.frame c hcw hcb]
      refine hc.frame c (Nat.lt_of_lt_of_le hcw S.conc.wsz) fun b p h1 hp hpc => ?_
      rw [← q1 b h1]
      by_cases hb0 : b < (HS 0).size
      · rw [S.conc.ext b (.inl hb0)] at hp
        have := hcb b p hb0 hp hpc
        rw [S.conc.ro b hb0 this]; exact this
      · rcases S.conc.fresh b p (by omega) (by omega) hp with h | ⟨b0, p0, c1, c2, c3, c4, c5, c6⟩
        · omega
        · rw [hcb b0 p0 c1 c5 (c6.trans hpc)] at c3; cases c3
  · intro i h1 h2 hLi
    have hij : i ≠ j := by intro k; subst k; simp at hLi
    have hLi' : L i = false := by simpa [hij] using hLi
    intro b hb1 hb2
    rw [old b]
    · exact S.free i h1 h2 hLi' b hb1 hb2
    · rcases Nat.lt_or_ge i j with h | h
      · have := HS_le hT hC hext hsz hok htr (i := i + 1) (j := j) (by omega) (by omega)
        exact .inl (by omega)
      · have := HS_le hT hC hext hsz hok htr (i := j + 1) (j := i) (by omega) (by have := S.eN; omega)
        exact .inr (by omega)
  · intro b hb1 hb2
    rw [old b (.inr (by omega))]
    exact S.free2 b hb1 hb2
  · intro i h1 h2 b b' p p' hb hb' hbe hp hp'
    by_cases hc1 : b < (HS j).size ∨ (HS (j + 1)).size ≤ b
    · by_cases hc2 : b' < (HS j).size ∨ (HS (j + 1)).size ≤ b'
      · rw [old b hc1] at hp; rw [old b' hc2] at hp'
        exact S.sep i h1 h2 b b' p p' hb hb' hbe hp hp'
      · rw [old b hc1] at hp
        have := fresh b' p' (by omega) (by omega) hp'
        have := domw b p hp
        omega
    · by_cases hc2 : b' < (HS j).size ∨ (HS (j + 1)).size ≤ b'
      · rw [old b' hc2] at hp'
        have := fresh b p (by omega) (by omega) hp
        have := domw b' p' hp'
        omega
      · exfalso
        rcases Nat.lt_or_ge j i with h | h
        · have := HS_le hT hC hext hsz hok htr (i := j + 1) (j := i) (by omega) (by have := S.eN; omega)
          omega
        · have := HS_le hT hC hext hsz hok htr (i := i) (j := j) h (by omega)
          omega

/-- An operation on slots alone, wherever it stands. -/
theorem seg_float {μ0 : Mu} {w0 : World} {L : Nat → Bool} {m e : Nat} {μ : Mu} {a : Act} {w : World} (S : Seg ops n tmS HS val μ0 w0 L m e μ a w) {j : Nat} {o : Oper} (ho : ops[j]? = some o)
    (hfl : flt ops j = true) (hL : L j = false) (hr : ∀ e ∈ o.after, Region.binds .any e = true → L e.on = true) {μ' : Mu} {v' : Value} {w' : World}
    (hc : Conc μ μ' (HS e) (HS e) w w') (hv : VRel μ' (val j) v') : Seg ops n tmS HS val μ0 w0 (fun k => k == j || L k) m e μ' (a.put o.dst v') w' := by
  have hle := hc.le (fun b h1 h2 => by omega)
  have same : ∀ b, μ' b = μ b := fun b => hc.ext b (by omega)
  refine ⟨S.me, S.eN, fun i hi => (S.low i hi).imp (fun h => by simp [h]) id, ?_, S.quiet, S.last, ?_, ?_, ?_, ?_, S.conc.trans hc, ?_, ?_, ?_⟩
  · intro i hi
    by_cases e' : i = j
    · subst e'; exact .inr hfl
    · exact S.high i (by simpa [e'] using hi)
  · intro k o' hk hLk e' he' hb
    by_cases ek : k = j
    · subst ek; rw [ho] at hk; cases hk; simp [hr e' he' hb]
    · have : L k = true := by simpa [ek] using hLk
      simp [S.down k o' hk this e' he' hb]
  · cases hd : o.dst <;> simp [Act.put, hd, S.tsz]
  · cases hd : o.dst <;> simp [Act.put, hd, S.dfs]
  · intro t
    rw [slots hT hC hext hsz hok htr S.down ho hL hr t]
    have hdok := (htr.step j o ho).1
    cases hd : o.dst with
    | none => simp only [Act.put]; simp only [reduceCtorEq, if_false]; exact VRel.mono hle _ _ (S.tmps t)
    | some d =>
      rw [hd] at hdok
      have hlt : d < a.tmps.size := by rw [S.tsz]; simpa [dstOk] using hdok
      simp only [Act.put, getD_set]
      by_cases e' : d = t
      · subst e'; rw [if_pos rfl, if_pos ⟨rfl, hlt⟩]; exact hv
      · rw [if_neg (fun k => e' (by simpa using k)), if_neg (fun k => e' k.1)]; exact VRel.mono hle _ _ (S.tmps t)
  · intro i h1 h2 hLi b hb1 hb2
    rw [same]
    exact S.free i h1 h2 (by simp at hLi; exact hLi.2) b hb1 hb2
  · intro b hb1 hb2
    rw [same]
    exact S.free2 b hb1 hb2
  · intro i h1 h2 b b' p p' hb hb' hbe hp hp'
    rw [same] at hp hp'
    exact S.sep i h1 h2 b b' p p' hb hb' hbe hp hp'

/-- How far the next quiet piece reaches. -/
theorem next_piece (m : Nat) (hm : m ≤ ops.size) : ∃ e, m ≤ e ∧ e ≤ ops.size ∧ (∀ i, m ≤ i → i < e → Quiet (HS i) (HS (i + 1))) ∧ (e = ops.size ∨ totOK ops e = true ∧ flt ops e = false) := by
  obtain ⟨d, hd⟩ : ∃ d, d = ops.size - m := ⟨_, rfl⟩
  induction d generalizing m with
  | zero => exact ⟨m, Nat.le_refl _, hm, fun i h1 h2 => by omega, .inl (by omega)⟩
  | succ d ih =>
    by_cases ht : totOK ops m = true ∧ flt ops m = false
    · exact ⟨m, Nat.le_refl _, hm, fun i h1 h2 => by omega, .inr ht⟩
    · obtain ⟨e, h1, h2, h3, h4⟩ := ih (m + 1) (by omega) (by omega)
      refine ⟨e, by omega, h2, fun i hi1 hi2 => ?_, h4⟩
      by_cases e' : i = m
      · subst e'
        obtain ⟨_, _, h⟩ := htr.step i _ (Array.getElem?_eq_getElem (by omega))
        rcases h with ⟨_, _, h⟩ | ⟨_, h0, h⟩
        · rw [h]; exact fun _ _ => rfl
        · cases hfl : flt ops i with
          | false => exact h.resolve_left fun k => ht ⟨k, hfl⟩
          | true =>
            rw [(floats_spec (by simpa [flt, Array.getElem?_eq_getElem (show i < ops.size by omega)] using hfl) h0).1]; exact fun _ _ => rfl
      · exact h3 i (by omega) hi2

/-- A new piece begins. -/
theorem seg_begin {μ0 : Mu} {w0 : World} {L : Nat → Bool} {m : Nat} (hm : m ≤ ops.size) {μ : Mu} {a : Act} {w : World} (hC1 : Conc μ0 μ (HS 0) (HS m) w0 w) (hfree : Free μ (HS m).size (HS ops.size).size)
    (hall : ∀ i, i < m → L i = true ∨ flt ops i = true) (hnone : ∀ i, L i = true → i < m ∨ flt ops i = true) (hd : Down ops L) (h1 : a.tmps.size = n) (h2 : a.defers = []) (htm : ∀ t, VRel μ (look ops (tmS 0) val L t ops.size) (a.tmps.getD t undef)) :
    ∃ e', Seg ops n tmS HS val μ0 w0 L m e' μ a w := by
  obtain ⟨e', k1, k2, k3, k4⟩ := next_piece hT hC hext hsz hok htr m hm
  have s2 : (HS m).size ≤ (HS e').size := HS_le hT hC hext hsz hok htr k1 k2
  have s3 : (HS e').size ≤ (HS ops.size).size := HS_le hT hC hext hsz hok htr k2 (Nat.le_refl _)
  have q : Quiet (HS m) (HS e') := HS_quiet hT hC hext hsz hok htr k3 k2 (Nat.le_refl _) k1 (Nat.le_refl _)
  have none : ∀ b p, μ b = some p → b < (HS e').size → b < (HS m).size := by
    intro b p hp hb
    rcases Nat.lt_or_ge b (HS m).size with k | k
    · exact k
    · rw [hfree b k (by omega)] at hp; cases hp
  have s0 : (HS 0).size ≤ (HS m).size := HS_le hT hC hext hsz hok htr (by omega) hm
  refine ⟨e', k1, k2, hall, fun i hi => (hnone i hi).imp (fun h => Nat.lt_of_lt_of_le h k1) id, k3, k4, hd, h1, h2, htm, ?_, ?_, ?_, ?_⟩
  · refine ⟨⟨hC1.rel.dom, ?_, ?_, ?_⟩, ?_, by omega, hC1.wsz, hC1.os, hC1.tape, hC1.output, ?_, hC1.frame, ?_, ?_, ?_⟩
    · intro b p e2 ro xs hp hb
      have hlt := none b p hp ((HS e').lt (by rw [hb]; rfl))
      exact hC1.rel.cells b p e2 ro xs hp (by rw [← q b hlt]; exact hb)
    · intro b p es hp hb
      have hlt := none b p hp ((HS e').lt (by rw [hb]; rfl))
      exact hC1.rel.maps b p es hp (by rw [← q b hlt]; exact hb)
    · intro b b' p p' l l' hp hp' hpc
      have hlt := none b p hp ((HS e').lt l)
      have hlt' := none b' p' hp' ((HS e').lt l')
      rw [q b hlt] at l ⊢; rw [q b' hlt'] at l' ⊢
      exact hC1.rel.inj b b' p p' l l' hp hp' hpc
    · intro b hb
      exact hC1.ext b (by omega)
    · intro b p k1 k2 hp
      have hlt := none b p hp k2
      rcases hC1.fresh b p k1 hlt hp with h | ⟨b0, p0, c1, c2, c3, c4, c5, c6⟩
      · exact .inl h
      · exact .inr ⟨b0, p0, c1, c2, c3, by rw [q b0 (by omega)]; exact c4, c5, c6⟩
    · intro b hb hro
      rw [q b (by omega)]; exact hC1.ro b hb hro
    · intro b hb hro
      rw [q b (by omega)]; exact hC1.dead b hb hro
    · intro b hb hro
      rw [q b (by omega)]; exact hC1.nro b hb hro
  · intro i j1 j2 _ b hb1 hb2
    have g1 := HS_le hT hC hext hsz hok htr (i := m) (j := i) j1 (by omega)
    have g2 := HS_le hT hC hext hsz hok htr (i := i + 1) (j := ops.size) (by omega) (Nat.le_refl _)
    exact hfree b (by omega) (by omega)
  · intro b hb1 hb2
    exact hfree b (by omega) hb2
  · intro i j1 j2 b b' p p' hb hb' hbe hp hp'
    have g1 := HS_le hT hC hext hsz hok htr (i := m) (j := i) j1 (by omega)
    have := none b' p' hp' hbe
    omega

/-- The operation that stands in order with all others: a new piece begins behind it. -/
theorem seg_tot {μ0 : Mu} {w0 : World} {L : Nat → Bool} {m e : Nat} {μ : Mu} {a : Act} {w : World} (S : Seg ops n tmS HS val μ0 w0 L m e μ a w) {o : Oper} (ho : ops[e]? = some o)
    (hall : ∀ i, i < e → L i = true ∨ flt ops i = true) (hLe : L e = false) (hr : ∀ e ∈ o.after, Region.binds .any e = true → L e.on = true) {μ' : Mu} {v' : Value} {w' : World}
    (hc : Conc μ μ' (HS e) (HS (e + 1)) w w') (hv : VRel μ' (val e) v') : ∃ e', Seg ops n tmS HS val μ0 w0 (fun k => k == e || L k) (e + 1) e' μ' (a.put o.dst v') w' := by
  have he : e < ops.size := (Array.getElem?_eq_some_iff.1 ho).1
  have s1 : (HS e).size ≤ (HS (e + 1)).size := HS_mono hT hC hext hsz hok htr he
  have s3 : (HS (e + 1)).size ≤ (HS ops.size).size := HS_le hT hC hext hsz hok htr (by omega) (Nat.le_refl _)
  have hfr : Free μ (HS e).size (HS (e + 1)).size := S.free2.left s3
  have hle := hc.le hfr
  refine seg_begin hT hC hext hsz hok htr (by omega) (S.conc.trans hc) (hc.free S.free2) ?_ ?_ ?_ ?_ ?_ ?_
  · intro i hi
    by_cases k : i = e
    · simp [k]
    · exact (hall i (by omega)).imp (fun h => by simp [h]) id
  · intro i hi
    by_cases k : i = e
    · exact .inl (by omega)
    · exact (S.high i (by simpa [k] using hi)).imp (fun h => by omega) id
  · intro k o' hk hLk e2 he2 hb
    by_cases ek : k = e
    · subst ek; rw [ho] at hk; cases hk; simp [hr e2 he2 hb]
    · have : L k = true := by simpa [ek] using hLk
      simp [S.down k o' hk this e2 he2 hb]
  · cases hd : o.dst <;> simp [Act.put, hd, S.tsz]
  · cases hd : o.dst <;> simp [Act.put, hd, S.dfs]
  · intro t
    rw [slots hT hC hext hsz hok htr S.down ho hLe hr t]
    have hdok := (htr.step e o ho).1
    cases hd : o.dst with
    | none => simp only [Act.put]; simp only [reduceCtorEq, if_false]; exact VRel.mono hle _ _ (S.tmps t)
    | some d =>
      rw [hd] at hdok
      have hlt : d < a.tmps.size := by rw [S.tsz]; simpa [dstOk] using hdok
      simp only [Act.put, getD_set]
      by_cases k : d = t
      · subst k; rw [if_pos rfl, if_pos ⟨rfl, hlt⟩]; exact hv
      · rw [if_neg (fun q => k (by simpa using q)), if_neg (fun q => k q.1)]; exact VRel.mono hle _ _ (S.tmps t)

theorem rel_prefix {μ : Mu} {H H' : AH} {w : World} (h : Rel μ H' w) (q : Quiet H H') : Rel μ H w := by
  refine ⟨h.dom, ?_, ?_, ?_⟩
  · intro b p e ro xs hp hb
    exact h.cells b p e ro xs hp (by rw [q b (H.lt (by rw [hb]; rfl))]; exact hb)
  · intro b p es hp hb
    exact h.maps b p es hp (by rw [q b (H.lt (by rw [hb]; rfl))]; exact hb)
  · intro b b' p p' l l' hp hp' hpc
    have := h.inj b b' p p' (by rw [q b (H.lt l)]; exact l) (by rw [q b' (H.lt l')]; exact l') hp hp' hpc
    rw [q b (H.lt l), q b' (H.lt l')] at this
    exact this

/-- Whatever order is drawn. -/
theorem any_sim {μ0 : Mu} {w0 : World} {Q : Exit → Act → World → Prop}
    (hK : ∀ μ' a' w', Conc μ0 μ' (HS 0) (HS ops.size) w0 w' → TRel μ' n (tmS ops.size) a' → Q .normal a' w') :
    ∀ (fuel : Nat) (listed : Array Bool) (L : Nat → Bool) (m e : Nat) (μ : Mu) (a : Act) (w : World), Seg ops n tmS HS val μ0 w0 L m e μ a w → (∀ i, L i = listed.getD i false) → listed.size = ops.size →
      ((List.range ops.size).filter fun i => !L i).length ≤ fuel → wpAny P .any ops Q fuel listed a w := by
  have done : ∀ (L : Nat → Bool) (m e : Nat) (μ : Mu) (a : Act) (w : World), Seg ops n tmS HS val μ0 w0 L m e μ a w → (∀ i, i < ops.size → L i = true) → Q .normal a w := by
    intro L m e μ a w S hall
    have he : e = ops.size := by
      rcases Nat.lt_or_ge e ops.size with h | h
      · have h2 := S.last.resolve_left (by omega)
        rcases S.high e (hall e h) with h3 | h3
        · omega
        · rw [h2.2] at h3; cases h3
      · have := S.eN; omega
    subst he
    refine hK μ a w S.conc ⟨S.tsz, S.dfs, fun t => ?_⟩
    rw [tmS_look hT hC hext hsz hok htr t ops.size (Nat.le_refl _), ← look_ext (p := L) _ fun k hk _ => hall k hk]
    exact S.tmps t
  -- where none is ready, all are listed
  have full : ∀ (listed : Array Bool) (L : Nat → Bool), (∀ i, L i = listed.getD i false) → listed.size = ops.size → Region.ready .any ops listed = [] → ∀ i, i < ops.size → L i = true := by
    intro listed L hL hs hr i
    induction i using Nat.strongRecOn with
    | _ i ih =>
      intro hi
      cases hLi : L i with
      | true => rfl
      | false =>
        exfalso
        have ho : ops[i]? = some ops[i] := Array.getElem?_eq_getElem hi
        have : i ∈ Region.ready .any ops listed := by
          refine mem_ready.2 ⟨?_, ops[i], ho, fun e he hb => ?_⟩
          · rw [hL i] at hLi
            simp only [Array.getD_eq_getD_getElem?] at hLi ⊢
            have hlt : i < listed.size := by omega
            simp [hlt] at hLi ⊢
            exact hLi
          · have hlt := regOK_edges hok ho e he hb
            rw [← hL]
            exact ih e.on hlt (by omega)
        rw [hr] at this; cases this
  intro fuel
  induction fuel with
  | zero =>
    intro listed L m e μ a w S hL hs hcnt
    have hall : ∀ i, i < ops.size → L i = true := by
      intro i hi
      cases hLi : L i with
      | true => rfl
      | false =>
        exfalso
        have : i ∈ (List.range ops.size).filter fun i => !L i := List.mem_filter.2 ⟨List.mem_range.2 hi, by simp [hLi]⟩
        have := List.length_pos_of_mem this
        omega
    refine ⟨?_, done L m e μ a w S hall⟩
    cases hr : Region.ready .any ops listed with
    | nil => rfl
    | cons i r =>
      exfalso
      obtain ⟨h1, o, ho, _⟩ := mem_ready.1 (show i ∈ Region.ready .any ops listed by rw [hr]; simp)
      have hi := (Array.getElem?_eq_some_iff.1 ho).1
      have h2 := hall i hi
      rw [hL i] at h2
      have hlt : i < listed.size := by omega
      simp [Array.getD_eq_getD_getElem?, hlt] at h1 h2
      rw [h1] at h2; cases h2
  | succ fuel ih =>
    intro listed L m e μ a w S hL hs hcnt
    refine ⟨fun hr => done L m e μ a w S (full listed L hL hs hr), fun i hi => ?_⟩
    obtain ⟨h1, o, ho, hed⟩ := mem_ready.1 hi
    have hi' := (Array.getElem?_eq_some_iff.1 ho).1
    have hlt : i < listed.size := by omega
    have hLi : L i = false := by
      rw [hL i]
      simp [Array.getD_eq_getD_getElem?, hlt] at h1 ⊢
      exact h1
    have hr : ∀ e ∈ o.after, Region.binds .any e = true → L e.on = true := fun e he hb => by rw [hL]; exact hed e he hb
    have hL' : ∀ k, (k == i || L k) = (listed.setIfInBounds i true).getD k false := by
      intro k
      rw [hL k]
      simp only [Array.getD_eq_getD_getElem?, Array.getElem?_setIfInBounds]
      by_cases e : k = i
      · subst e; simp [hlt]
      · simp [e, Ne.symm e]
    have hcnt' : ((List.range ops.size).filter fun k => !(k == i || L k)).length ≤ fuel := by
      have := filter_lt (p := fun k => !L k) (q := fun k => !(k == i || L k)) (List.range ops.size) (by intro x hx; simp at hx ⊢; exact hx.2) ⟨i, List.mem_range.2 hi', by simp [hLi], by simp⟩
      omega
    cases hfl : flt ops i with
    | true =>
      have hflo : floats o.op = true := by simpa [flt, ho] using hfl
      have next : ∀ μ' v' w', Conc μ μ' (HS e) (HS e) w w' → VRel μ' (val i) v' → wpAny P .any ops Q fuel (listed.setIfInBounds i true) (a.put o.dst v') w' := fun μ' v' w' hc hv =>
        ih _ _ m e μ' _ w' (seg_float hT hC hext hsz hok htr S ho hfl hLi hr hc hv) hL' (by simp [hs]) hcnt'
      unfold wpOp
      rw [ho]
      simp only
      have hsee : ∀ t, t ∈ o.looksAt ops → VRel μ (tmS i t) (a.tmps.getD t undef) := by
        intro t ht
        rw [← sees hT hC hext hsz hok htr S.down ho hLi hr (.inl ht)]
        exact S.tmps t
      obtain ⟨_, _, hstep⟩ := htr.step i o ho
      rcases hstep with ⟨hw, hv, hH⟩ | ⟨hw, h0, _⟩
      · rw [wanted_rel hw hsee]
        refine next μ undef w (.refl S.conc.rel) (by rw [hv]; exact ⟨#[], rfl, rfl⟩)
      · rw [wanted_rel hw hsee]
        exact .inl (op_sim hT hC hext S.conc.rel (fun t ht => hsee t (by unfold looks at ht; unfold Oper.looksAt; exact List.mem_append_left _ ht)) ((floats_spec hflo h0).2 (HS e)) (fun b h1 h2 => by omega) next)
    | false =>
      have hm : m ≤ i := by
        rcases Nat.lt_or_ge i m with h | h
        · rcases S.low i h with k | k
          · rw [k] at hLi; cases hLi
          · rw [hfl] at k; cases k
        · exact h
      -- where it stands
      have hie : i < e ∨ i = e := by
        rcases Nat.lt_or_ge i e with h | h
        · exact .inl h
        · right
          have heN : e < ops.size := by omega
          have ht := S.last.resolve_left (by omega)
          rcases Nat.lt_or_ge e i with h' | h'
          · exfalso
            have := totOK_spec ht.1 hi' (by omega) hfl
            rw [if_neg (by omega)] at this
            have hLe := ordered_ready S.down ho hr (by omega) this
            rcases S.high e hLe with k | k
            · omega
            · rw [ht.2] at k; cases k
          · omega
      have hR : Rel μ (HS i) w := by
        rcases hie with h | h
        · exact rel_prefix hT hC hext hsz hok htr S.conc.rel (HS_quiet hT hC hext hsz hok htr S.quiet S.eN hm (by omega) (Nat.le_refl _))
        · subst h; exact S.conc.rel
      have hfr : Free μ (HS i).size (HS (i + 1)).size := by
        rcases hie with h | h
        · exact S.free i hm h hLi
        · subst h; exact S.free2.left (HS_le hT hC hext hsz hok htr (by omega) (Nat.le_refl _))
      -- behind it
      have next : ∀ μ' v' w', Conc μ μ' (HS i) (HS (i + 1)) w w' → VRel μ' (val i) v' → wpAny P .any ops Q fuel (listed.setIfInBounds i true) (a.put o.dst v') w' := by
        intro μ' v' w' hc hv
        rcases hie with h | h
        · exact ih _ _ m e μ' _ w' (seg_mid hT hC hext hsz hok htr S ho hm h hLi hr hc hv) hL' (by simp [hs]) hcnt'
        · subst h
          have hall : ∀ k, k < i → L k = true ∨ flt ops k = true := by
            intro k hk
            have ht := S.last.resolve_left (by omega)
            cases hk2 : flt ops k with
            | true => exact .inr rfl
            | false =>
              have := totOK_spec ht.1 (j := k) (by omega) (by omega) hk2
              rw [if_pos hk] at this
              exact .inl (ordered_ready S.down ho hr (by omega) this)
          obtain ⟨e', S'⟩ := seg_tot hT hC hext hsz hok htr S ho hall hLi hr hc hv
          exact ih _ _ _ e' μ' _ w' S' hL' (by simp [hs]) hcnt'
      unfold wpOp
      rw [ho]
      simp only
      have hsee : ∀ t, t ∈ o.looksAt ops → VRel μ (tmS i t) (a.tmps.getD t undef) := by
        intro t ht
        rw [← sees hT hC hext hsz hok htr S.down ho hLi hr (.inl ht)]
        exact S.tmps t
      obtain ⟨_, _, hstep⟩ := htr.step i o ho
      rcases hstep with ⟨hw, hv, hH⟩ | ⟨hw, h0, _⟩
      · rw [wanted_rel hw hsee]
        refine next μ undef w (by rw [hH]; exact .refl hR) (by rw [hv]; exact ⟨#[], rfl, rfl⟩)
      · rw [wanted_rel hw hsee]
        exact .inl (op_sim hT hC hext hR (fun t ht => hsee t (by unfold looks at ht; unfold Oper.looksAt; exact List.mem_append_left _ ht)) h0 hfr next)

end

section
variable {P : Program} {T : TT} (hT : ∀ t d, T t = some d → TDOK P t d) {C : CT} (hC : CallSim P C)
  (hext : ∀ f, (∀ args H v H', C f args H v H' → ∃ fn, P.funcs[f]? = some fn ∧ fn.body.isSome = true ∧ (fn.name == "runtime.NumGoroutine") = false))
  (hsz : ∀ f args H v H', C f args H v H' → H.size ≤ H'.size)
include hT hC hext hsz

/-- A region that draws its order. -/
theorem draw_sim (hm : P.follows .mixedOrders = true) {n id : Nat} {ops : Array Oper} (hok : regOK ops = true) {μ : Mu} {H H' : AH} {w : World} {tm tm' : Tm} {a : Act} (hR : Rel μ H w) (hA : TRel μ n tm a)
    (h : AOps T C n ops true (totOK ops) 0 ops.toList tm H tm' H') (hf : Free μ H.size H'.size) {Q : Exit → Act → World → Prop}
    (hK : ∀ μ' a' w', Conc μ μ' H H' w w' → TRel μ' n tm' a' → Q .normal a' w') : (Code.region id ops true).wp P Q a w := by
  obtain ⟨tmS, HS, val, e1, e2, e3, e4, hst⟩ := trace_of ops.toList 0 tm H tm' H' h
  simp only [Nat.zero_add, Array.length_toList] at e3 e4 hst
  have htr : Trace T C n ops (totOK ops) tmS HS val := ⟨fun k o ho => hst k o (by simpa using ho)⟩
  refine wp_region_any hm ?_
  have hlk : ∀ t k, look ops (tmS 0) val (fun _ => false) t k = tmS 0 t := by
    intro t k
    induction k with
    | zero => rfl
    | succ k ih => show (if _ then _ else _) = _; rw [if_neg (by simp)]; exact ih
  obtain ⟨e, S⟩ := seg_begin hT hC hext hsz hok htr (μ0 := μ) (w0 := w) (L := fun _ => false) (m := 0) (by omega) (μ := μ) (a := a) (w := { w with drawn := w.drawn + 1 })
    (by rw [e2]; exact conc_drew hR) (by rw [e2, e4]; exact hf) (fun i hi => by omega) (fun i hi => by simp at hi) (fun j o _ hj => by simp at hj) hA.size hA.defers (fun t => by rw [hlk, e1]; exact hA.rel t)
  refine any_sim hT hC hext hsz hok htr (μ0 := μ) (w0 := w) (fun μ' a' w' hc ht => hK μ' a' w' (by rw [← e2, ← e4]; exact hc) (by rw [← e3]; exact ht)) _ _ _ _ _ _ _ _ S ?_ (by simp) ?_
  · intro i
    simp [Array.getD_eq_getD_getElem?, Array.getElem?_replicate]
    split <;> rfl
  · refine Nat.le_trans (List.length_filter_le _ _) (by simp)

end
end Go.Proofs.Ytopbfmhajbjepaa
