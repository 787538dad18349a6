/- Code and calls over the abstract memory, and that they tell what the machine does. -/
import Derived.Test.YtopbfmhajbjepaaFw12
namespace Go.Proofs.Ytopbfmhajbjepaa
open Go
set_option linter.unusedSectionVars false
set_option linter.unusedSimpArgs false
set_option linter.unusedVariables false

inductive AExit where
  | normal
  | exit (id : Nat)
  | ret

def AExit.to : AExit → Exit
  | .normal => .normal
  | .exit id => .exit id
  | .ret => .ret

inductive AExec (T : TT) (C : CT) (n : Nat) : Code → Tm → AH → AExit → Tm → AH → Prop where
  | skip {tm : Tm} {H : AH} : AExec T C n .skip tm H .normal tm H
  | label {l : Nat} {tm : Tm} {H : AH} : AExec T C n (.label l) tm H .normal tm H
  | exit {id : Nat} {tm : Tm} {H : AH} : AExec T C n (.exit id) tm H (.exit id) tm H
  | ret {tm : Tm} {H : AH} : AExec T C n .ret tm H .ret tm H
  | region {id : Nat} {ops : Array Oper} {tm tm' : Tm} {H H' : AH} (h : AOps T C n ops .no (fun _ => false) 0 ops.toList tm H tm' H') : AExec T C n (.region id ops false) tm H .normal tm' H'
  | draw {id : Nat} {ops : Array Oper} {W : Nat → Prop} {ind : List Nat} {tm tm' : Tm} {H H' : AH} (hok : regOK ops = true) (h : AOps T C n ops (.yes W ind) (totOK ops ind) 0 ops.toList tm H tm' H') : AExec T C n (.region id ops true) tm H .normal tm' H'
  | seq {x y : Code} {tm tm1 tm2 : Tm} {H H1 H2 : AH} {e : AExit} (h1 : AExec T C n x tm H .normal tm1 H1) (h2 : AExec T C n y tm1 H1 e tm2 H2) : AExec T C n (.seq x y) tm H e tm2 H2
  | seqOut {x y : Code} {tm tm1 : Tm} {H H1 : AH} {e : AExit} (h1 : AExec T C n x tm H e tm1 H1) (he : e ≠ .normal) : AExec T C n (.seq x y) tm H e tm1 H1
  | cond {c : Operand} {x y : Code} {t : Bool} {tm tm' : Tm} {H H' : AH} {e : AExit} (hc : ev tm c = .bool t) (h : AExec T C n (if t then x else y) tm H e tm' H') : AExec T C n (.cond c x y) tm H e tm' H'
  | block {id : Nat} {c : Code} {tm tm' : Tm} {H H' : AH} {e : AExit} (h : AExec T C n c tm H e tm' H') (he : e ≠ .exit id) : AExec T C n (.block id c) tm H e tm' H'
  | blockOut {id : Nat} {c : Code} {tm tm' : Tm} {H H' : AH} (h : AExec T C n c tm H (.exit id) tm' H') : AExec T C n (.block id c) tm H .normal tm' H'
  | loop {c : Code} {tm tm1 tm2 : Tm} {H H1 H2 : AH} {e : AExit} (h1 : AExec T C n c tm H .normal tm1 H1) (h2 : AExec T C n (.loop c) tm1 H1 e tm2 H2) : AExec T C n (.loop c) tm H e tm2 H2
  | loopOut {c : Code} {tm tm1 : Tm} {H H1 : AH} {e : AExit} (h1 : AExec T C n c tm H e tm1 H1) (he : e ≠ .normal) : AExec T C n (.loop c) tm H e tm1 H1

/-- A loop, from its body's start on. -/
def LoopFrom (P : Program) (c : Code) (Q : Exit → Act → World → Prop) (a : Act) (w : World) : Prop :=
  ∀ (b : Frame) (k : List Item) (cs : List Frame), ∃ e a' w', Q e a' w' ∧ Arrives P (lone (b.at a (.code c :: .inLoop c :: k)) cs w) b k cs e a' w'

theorem LoopFrom.wp {P : Program} {c : Code} {Q : Exit → Act → World → Prop} {a : Act} {w : World} (h : LoopFrom P c Q a w) : (Code.loop c).wp P Q a w :=
  fun b k cs => let ⟨e, a', w', q, r⟩ := h b k cs; ⟨e, a', w', q, .of_steps (.one step_loop) r⟩

theorem LoopFrom.next {P : Program} {c : Code} {Q : Exit → Act → World → Prop} {a : Act} {w : World} (h : c.wp P (Exit.then (LoopFrom P c Q) Q) a w) : LoopFrom P c Q a w := by
  intro b k cs
  obtain ⟨e, a₁, w₁, hq, harr⟩ := h b (.inLoop c :: k) cs
  cases e with
  | normal =>
    obtain ⟨e₂, a₂, w₂, hq₂, harr₂⟩ := hq b k cs
    exact ⟨e₂, a₂, w₂, hq₂, .of_steps (Steps.trans harr (.one step_inLoop)) harr₂⟩
  | exit id => exact ⟨_, a₁, w₁, hq, .pass (x := .inLoop c) rfl (fun _ _ => .inl (by simp)) harr⟩
  | goto l => exact ⟨_, a₁, w₁, hq, .pass (x := .inLoop c) rfl (fun _ _ => .inl (by simp)) harr⟩
  | ret => exact ⟨_, a₁, w₁, hq, .pass (x := .inLoop c) rfl (fun _ _ => .inl (by simp)) harr⟩
  | panic ch => exact ⟨_, a₁, w₁, hq, .pass (x := .inLoop c) rfl (fun _ _ => .inl (by simp)) harr⟩
  | outgrown => exact ⟨_, a₁, w₁, hq, .pass (x := .inLoop c) rfl (fun _ _ => .inl (by simp)) harr⟩

/-- The statement of a code, of a loop from its body's start on. -/
def WQ (P : Program) (c : Code) (Q : Exit → Act → World → Prop) (a : Act) (w : World) : Prop :=
  match c with
  | .loop x => LoopFrom P x Q a w
  | c => c.wp P Q a w

theorem WQ.wp {P : Program} {c : Code} {Q : Exit → Act → World → Prop} {a : Act} {w : World} (h : WQ P c Q a w) : c.wp P Q a w := by
  cases c <;> first | exact h | exact LoopFrom.wp h

section
variable {P : Program} {T : TT} (hT : ∀ t d, T t = some d → TDOK P t d) {C : CT} (hC : CallSim P C)
  (hext : ∀ f, (∀ args H v H', C f args H v H' → ∃ fn, P.funcs[f]? = some fn ∧ fn.body.isSome = true ∧ (fn.name == "runtime.NumGoroutine") = false))
  (hsz : ∀ f args H v H', C f args H v H' → H.size ≤ H'.size) (hm : P.follows .mixedOrders = true)

include hsz in
theorem exec_size {n : Nat} {c : Code} {tm tm' : Tm} {H H' : AH} {e : AExit} (h : AExec T C n c tm H e tm' H') : H.size ≤ H'.size := by
  induction h with
  | skip => exact Nat.le_refl _
  | label => exact Nat.le_refl _
  | exit => exact Nat.le_refl _
  | ret => exact Nat.le_refl _
  | region h => exact ops_size hsz h
  | draw _ h => exact ops_size hsz h
  | seq _ _ i1 i2 => exact Nat.le_trans i1 i2
  | seqOut _ _ i => exact i
  | cond _ _ i => exact i
  | block _ _ i => exact i
  | blockOut _ i => exact i
  | loop _ _ i1 i2 => exact Nat.le_trans i1 i2
  | loopOut _ _ i => exact i

include hT hC hext hsz hm

theorem exec_sim {n : Nat} {c : Code} {tm tm' : Tm} {H H' : AH} {e : AExit} (h : AExec T C n c tm H e tm' H') : ∀ {μ : Mu} {w : World} {a : Act} {Q : Exit → Act → World → Prop}, Rel μ H w → TRel μ n tm a → Free μ H.size H'.size →
    (∀ μ' a' w', Conc μ μ' H H' w w' → TRel μ' n tm' a' → Q e.to a' w') → WQ P c Q a w := by
  induction h with
  | skip => intro μ w a Q hR hA _ hK; exact wp_skip (hK μ a w (.refl hR) hA)
  | label => intro μ w a Q hR hA _ hK; exact wp_label (hK μ a w (.refl hR) hA)
  | exit => intro μ w a Q hR hA _ hK; exact wp_exit (hK μ a w (.refl hR) hA)
  | ret => intro μ w a Q hR hA _ hK; exact wp_ret (hK μ a w (.refl hR) hA)
  | region h =>
    intro μ w a Q hR hA hf hK
    exact wp_region_list (ops_sim hT hC hext hsz n _ .no _ _ 0 μ _ w _ a _ _ hR hA h hf hK)
  | draw hok h =>
    intro μ w a Q hR hA hf hK
    exact draw_sim hT hC hext hsz hm hok hR hA h hf hK
  | seq h1 h2 i1 i2 =>
    intro μ w a Q hR hA hf hK
    have s1 := exec_size hsz h1
    have s2 := exec_size hsz h2
    refine wp_seq (WQ.wp (i1 hR hA (hf.left s2) fun μ1 a1 w1 c1 t1 => ?_))
    exact WQ.wp (i2 c1.rel t1 (c1.free hf) fun μ2 a2 w2 c2 t2 => hK μ2 a2 w2 (c1.trans c2) t2)
  | seqOut h1 he i1 =>
    intro μ w a Q hR hA hf hK
    refine wp_seq (WQ.wp (i1 hR hA hf fun μ1 a1 w1 c1 t1 => ?_))
    have := hK μ1 a1 w1 c1 t1
    rename_i e
    cases e <;> first | exact absurd rfl he | exact this
  | cond hc h i =>
    rename_i c x y t tm1 tm2 H1 H2 e1
    intro μ w a Q hR hA hf hK
    have hcv := hA.ev c
    rw [hc] at hcv
    exact wp_cond hcv (WQ.wp (i hR hA hf hK))
  | block h he i =>
    intro μ w a Q hR hA hf hK
    refine wp_block (WQ.wp (i hR hA hf fun μ1 a1 w1 c1 t1 => ?_))
    have := hK μ1 a1 w1 c1 t1
    rename_i e
    cases e with
    | exit id' =>
      show (if _ then _ else _)
      rw [if_neg (fun k => he (by rw [k]))]
      exact this
    | normal => exact this
    | ret => exact this
  | blockOut h i =>
    intro μ w a Q hR hA hf hK
    refine wp_block (WQ.wp (i hR hA hf fun μ1 a1 w1 c1 t1 => ?_))
    show (if _ then _ else _)
    rw [if_pos rfl]
    exact hK μ1 a1 w1 c1 t1
  | loop h1 h2 i1 i2 =>
    intro μ w a Q hR hA hf hK
    have s1 := exec_size hsz h1
    have s2 := exec_size hsz h2
    refine LoopFrom.next (WQ.wp (i1 hR hA (hf.left s2) fun μ1 a1 w1 c1 t1 => ?_))
    exact i2 c1.rel t1 (c1.free hf) fun μ2 a2 w2 c2 t2 => hK μ2 a2 w2 (c1.trans c2) t2
  | loopOut h1 he i1 =>
    intro μ w a Q hR hA hf hK
    refine LoopFrom.next (WQ.wp (i1 hR hA hf fun μ1 a1 w1 c1 t1 => ?_))
    have := hK μ1 a1 w1 c1 t1
    rename_i e
    cases e <;> first | exact absurd rfl he | exact this

end

/-- A function's results. -/
def ares (T : TT) (tm : Tm) (H : AH) : List ResultVar → Option (List AV)
  | [] => some []
  | .tmp t :: r => (ares T tm H r).map (tm t :: ·)
  | .cell a t :: r => match tm a, T t with
    | .ptr b o, some d => match aload d H b o, ares T tm H r with
      | some v, some vs => some (v :: vs)
      | _, _ => none
    | _, _ => none

def aresult : List AV → AV
  | [v] => v
  | vs => .tup vs

def tm0 (args : List AV) : Tm := fun t => args.getD t .undef

/-- A function that is known by what it does. -/
abbrev PrimT := FuncId → Option (List AV → AH → AV → AH → Prop)

def ACallN (P : Program) (T : TT) (prims : PrimT) : Nat → CT
  | 0 => fun _ _ _ _ _ => False
  | k + 1 => fun f args H v H' =>
    match prims f with
    | some g => g args H v H'
    | none => ∃ fn c e tm' vs, P.funcs[f]? = some fn ∧ fn.body = some c ∧ (fn.name == "runtime.NumGoroutine") = false ∧ args.length ≤ fn.ntmps ∧
        AExec T (ACallN P T prims k) fn.ntmps c (tm0 args) H e tm' H' ∧ (∀ id, e ≠ .exit id) ∧ ares T tm' H' fn.results.toList = some vs ∧ v = aresult vs

structure PrimOK (P : Program) (prims : PrimT) : Prop where
  sim : ∀ f g args H v H', prims f = some g → g args H v H' → ∀ μ w vs, Rel μ H w → VRels μ args vs.toList → Free μ H.size H'.size →
    Calls P f vs w fun e w' => ∃ v' μ', e = .returned v' ∧ Conc μ μ' H H' w w' ∧ VRel μ' v v'
  size : ∀ f g args H v H', prims f = some g → g args H v H' → H.size ≤ H'.size
  body : ∀ f g, prims f = some g → ∃ fn, P.funcs[f]? = some fn ∧ fn.body.isSome = true ∧ (fn.name == "runtime.NumGoroutine") = false

section
variable {P : Program} {T : TT} (hT : ∀ t d, T t = some d → TDOK P t d) {prims : PrimT} (hP : PrimOK P prims) (hm : P.follows .mixedOrders = true)

theorem getD_args (args : Array Value) (m t : Nat) : (args ++ Array.replicate m undef).getD t undef = args.getD t undef := by
  simp only [Array.getD_eq_getD_getElem?, Array.getElem?_append, Array.getElem?_replicate]
  split
  · rfl
  · rename_i h
    rw [Array.getElem?_eq_none (by omega)]
    split <;> rfl

theorem args_rel {μ : Mu} {args : List AV} {vs : Array Value} (h : VRels μ args vs.toList) (t : Nat) : VRel μ (tm0 args t) (vs.getD t undef) := by
  unfold tm0
  rw [List.getD_eq_getElem?_getD, Array.getD_eq_getD_getElem?]
  cases hx : args[t]? with
  | none => trivial
  | some x =>
    obtain ⟨y, hy, hr⟩ := VRels.get _ _ h t x hx
    have hy' : vs[t]? = some y := by simpa using hy
    rw [hy']; exact hr

def resOf (tmps : Array Value) : ResultVar → Sem Value
  | .tmp t => pure (tmps.getD t undef)
  | .cell a t => do loadVar t (← asAddr (tmps.getD a undef))

theorem results_eq (fn : Func) (tmps : Array Value) : results fn tmps = (do let vs ← fn.results.mapM (resOf tmps); pure (if h : vs.size = 1 then vs[0] else .tuple vs) : Sem Value) := by
  unfold results
  congr 1

include hT in
theorem ares_run {μ : Mu} {H : AH} {w : World} (hR : Rel μ H w) {tm : Tm} {tmps : Array Value} (hA : ∀ t, VRel μ (tm t) (tmps.getD t undef)) : ∀ (rs : List ResultVar) (vs : List AV), ares T tm H rs = some vs →
    ∃ ys : List Value, (rs.mapM (resOf tmps)).run P w = .ok ys w ∧ VRels μ vs ys
  | [], vs, h => by simp [ares] at h; subst h; exact ⟨[], by simp, rfl⟩
  | .tmp t :: r, vs, h => by
    simp only [ares] at h
    obtain ⟨us, hu, e⟩ := map_some_inv h
    subst e
    obtain ⟨ys, hy, hr⟩ := ares_run hR hA r us hu
    exact ⟨tmps.getD t undef :: ys, by simp [List.mapM_cons, resOf, hy], _, _, rfl, hA t, hr⟩
  | .cell a t :: r, vs, h => by
    simp only [ares] at h
    split at h
    · rename_i b o d hb hd
      split at h
      · rename_i v us hv hu
        cases h
        obtain ⟨ys, hy, hr⟩ := ares_run hR hA r us hu
        have ha := hA a
        rw [hb] at ha
        obtain ⟨v', hl, hvr⟩ := load_rel (P := P) hT hR hd hv ha
        refine ⟨v' :: ys, ?_, _, _, rfl, hvr, hr⟩
        simp only [VRel] at ha
        obtain ⟨p, hp, hpe⟩ := ha
        rw [hpe] at hl
        simp only [Instr.loadAt, Instr.sureAddr, Sem.run_bind, Sem.run_pure, Result.andThen_ok] at hl
        simp [List.mapM_cons, resOf, hpe, asAddr, hl, hy]
      · cases h
    · cases h

include hT in
theorem results_run {μ : Mu} {H : AH} {w : World} (hR : Rel μ H w) {tm : Tm} {a : Act} (hA : ∀ t, VRel μ (tm t) (a.tmps.getD t undef)) {fn : Func} {vs : List AV} (h : ares T tm H fn.results.toList = some vs) :
    ∃ v', (results fn a.tmps).run P w = .ok v' w ∧ VRel μ (aresult vs) v' := by
  obtain ⟨ys, hy, hr⟩ := ares_run (P := P) hT hR hA _ _ h
  have hl := VRels.length _ _ hr
  have hrun : (results fn a.tmps).run P w = .ok (if h : ys.toArray.size = 1 then ys.toArray[0] else .tuple ys.toArray) w := by
    rw [results_eq, Array.mapM_eq_mapM_toList]
    simp only [map_eq_pure_bind, Sem.run_bind, hy, Result.andThen_ok, Sem.run_pure]
  refine ⟨_, hrun, ?_⟩
  match vs, ys, hr, hl with
  | [v], [y], hr, _ =>
    obtain ⟨y', r', e, h1, _⟩ := hr
    cases e
    simpa [aresult] using h1
  | [], [], hr, _ => exact ⟨#[], by simp, hr⟩
  | v :: v2 :: vs, y :: y2 :: ys, hr, _ => exact ⟨(y :: y2 :: ys).toArray, by simp, by simpa using hr⟩
  | [], _ :: _, _, h => simp at h
  | _ :: _, [], _, h => simp at h
  | [_], _ :: _ :: _, _, h => simp at h
  | _ :: _ :: _, [_], _, h => simp at h

include hP in
theorem callN_size : ∀ (k : Nat) (f : FuncId) (args : List AV) (H : AH) (v : AV) (H' : AH), ACallN P T prims k f args H v H' → H.size ≤ H'.size
  | 0, _, _, _, _, _, h => h.elim
  | k + 1, f, args, H, v, H', h => by
    unfold ACallN at h
    split at h
    · rename_i g hg; exact hP.size f g args H v H' hg h
    · obtain ⟨fn, c, e, tm', vs, _, _, _, _, hx, _⟩ := h
      exact exec_size (callN_size k) hx

include hP in
theorem callN_body : ∀ (k : Nat) (f : FuncId) (args : List AV) (H : AH) (v : AV) (H' : AH), ACallN P T prims k f args H v H' → ∃ fn, P.funcs[f]? = some fn ∧ fn.body.isSome = true ∧ (fn.name == "runtime.NumGoroutine") = false
  | 0, _, _, _, _, _, h => h.elim
  | k + 1, f, args, H, v, H', h => by
    unfold ACallN at h
    split at h
    · rename_i g hg; exact hP.body f g hg
    · obtain ⟨fn, c, e, tm', vs, h1, h2, h3, _⟩ := h
      exact ⟨fn, h1, by rw [h2]; rfl, h3⟩

include hT hP hm

/-- What is reckoned over the abstract memory is what the machine does. -/
theorem callN_sim : ∀ k, CallSim P (ACallN P T prims k)
  | 0 => fun _ _ _ _ _ h => h.elim
  | k + 1 => by
    intro f args H v H' h μ w vs hR hV hf
    unfold ACallN at h
    split at h
    · rename_i g hg; exact hP.sim f g args H v H' hg h μ w vs hR hV hf
    · obtain ⟨fn, c, e, tm', us, h1, h2, h3, h4, hx, he, hr, rfl⟩ := h
      have hl : vs.size = args.length := by have := VRels.length _ _ hV; simpa using this
      refine calls_of_wp h1 h2 (WQ.wp (exec_sim hT (callN_sim k) (fun f args H v H' h => callN_body hP k f args H v H' h) (callN_size hP k) hm hx hR ⟨by simp [hl]; omega, rfl, fun t => ?_⟩ hf fun μ' a' w' hc ht => ?_))
      · show VRel μ _ ((vs ++ Array.replicate _ undef).getD t undef)
        rw [getD_args]
        exact args_rel hV t
      · obtain ⟨v', hrun, hrel⟩ := results_run (P := P) hT hc.rel ht.rel hr
        cases e with
        | exit id => exact absurd rfl (he id)
        | normal => exact ⟨ht.defers, v', hrun, v', μ', rfl, hc, hrel⟩
        | ret => exact ⟨ht.defers, v', hrun, v', μ', rfl, hc, hrel⟩

end
end Go.Proofs.Ytopbfmhajbjepaa
