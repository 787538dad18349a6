/- The logic of the abstract memory: what a walk uses. -/
import Derived.Test.YtopbfmhajbjepaaFw13
namespace Go.Proofs.Ytopbfmhajbjepaa
open Go
set_option linter.unusedSectionVars false
set_option linter.unusedSimpArgs false
set_option linter.unusedVariables false

theorem AOp.mono {T : TT} {C C' : CT} (hC : ∀ f args H v H', C f args H v H' → C' f args H v H') {tm : Tm} {H H' : AH} {op : Op} {v : AV} (h : AOp T C tm H op v H') : AOp T C' tm H op v H' := by
  cases op <;> first | exact h | skip
  rename_i c
  cases hcal : c.callee with
  | value f =>
    cases hf : ev tm f <;> simp only [AOp, hcal, hf] at h ⊢
    exact hC _ _ _ _ _ h
  | builtin b => simp only [AOp, hcal] at h ⊢; exact h
  | invoke r m => simp only [AOp, hcal] at h ⊢; exact h

theorem AOps.mono {T : TT} {C C' : CT} (hC : ∀ f args H v H', C f args H v H' → C' f args H v H') {n : Nat} {ops : Array Oper} {dr : Dr} {tot tot' : Nat → Bool} (ht : ∀ i, tot i = true → tot' i = true) :
    ∀ {l : List Oper} {i : Nat} {tm : Tm} {H : AH} {tm' : Tm} {H' : AH}, AOps T C n ops dr tot i l tm H tm' H' → AOps T C' n ops dr tot' i l tm H tm' H'
  | [], _, _, _, _, _, h => h
  | o :: rest, i, tm, H, tm', H', ⟨hd, h⟩ => by
    refine ⟨hd, ?_⟩
    rcases h with ⟨hw, h⟩ | ⟨hw, v, H1, h0, hq, h⟩
    · exact .inl ⟨hw, AOps.mono hC ht h⟩
    · exact .inr ⟨hw, v, H1, h0.mono hC, hq.mono (ht i), AOps.mono hC ht h⟩

theorem AExec.mono {T : TT} {C C' : CT} (hC : ∀ f args H v H', C f args H v H' → C' f args H v H') {n : Nat} {c : Code} {tm tm' : Tm} {H H' : AH} {e : AExit} (h : AExec T C n c tm H e tm' H') : AExec T C' n c tm H e tm' H' := by
  induction h with
  | skip => exact .skip
  | label => exact .label
  | exit => exact .exit
  | ret => exact .ret
  | region h => exact .region (h.mono hC fun _ h => h)
  | draw hok h => exact .draw hok (h.mono hC fun _ h => h)
  | seq _ _ i1 i2 => exact .seq i1 i2
  | seqOut _ he i => exact .seqOut i he
  | cond hc _ i => exact .cond hc i
  | block _ he i => exact .block i he
  | blockOut _ i => exact .blockOut i
  | loop _ _ i1 i2 => exact .loop i1 i2
  | loopOut _ he i => exact .loopOut i he

section
variable {P : Program} {T : TT} {prims : PrimT}

theorem ACallN.succ : ∀ (k : Nat) (f : FuncId) (args : List AV) (H : AH) (v : AV) (H' : AH), ACallN P T prims k f args H v H' → ACallN P T prims (k + 1) f args H v H'
  | 0, _, _, _, _, _, h => h.elim
  | k + 1, f, args, H, v, H', h => by
    unfold ACallN at h ⊢
    split
    · rename_i g hg
      rw [hg] at h
      exact h
    · rename_i hg
      rw [hg] at h
      obtain ⟨fn, c, e, tm', vs, h1, h2, h3, h4, h5, h6⟩ := h
      exact ⟨fn, c, e, tm', vs, h1, h2, h3, h4, h5.mono (ACallN.succ k), h6⟩

theorem ACallN.le {k : Nat} {f : FuncId} {args : List AV} {H : AH} {v : AV} {H' : AH} (h : ACallN P T prims k f args H v H') : ∀ {m : Nat}, k ≤ m → ACallN P T prims m f args H v H'
  | 0, hk => by have : k = 0 := by omega
                subst this; exact h
  | m + 1, hk => by
    by_cases e : k = m + 1
    · subst e; exact h
    · exact ACallN.succ m _ _ _ _ _ (ACallN.le h (by omega))

/-- A call comes to its end. -/
def ACall (P : Program) (T : TT) (prims : PrimT) : CT := fun f args H v H' => ∃ k, ACallN P T prims k f args H v H'

theorem AOp.finite {tm : Tm} {H H' : AH} {op : Op} {v : AV} (h : AOp T (ACall P T prims) tm H op v H') : ∃ k, AOp T (ACallN P T prims k) tm H op v H' := by
  cases op <;> first | exact ⟨0, h⟩ | skip
  rename_i c
  cases hcal : c.callee with
  | value f =>
    cases hf : ev tm f <;> simp only [AOp, hcal, hf] at h ⊢
    exact h
  | builtin b => exact ⟨0, by simp only [AOp, hcal] at h ⊢; exact h⟩
  | invoke r m => exact ⟨0, by simp only [AOp, hcal] at h ⊢; exact h⟩

theorem AOps.finite {n : Nat} {ops : Array Oper} {dr : Dr} {tot : Nat → Bool} : ∀ {l : List Oper} {i : Nat} {tm : Tm} {H : AH} {tm' : Tm} {H' : AH}, AOps T (ACall P T prims) n ops dr tot i l tm H tm' H' →
    ∃ k, AOps T (ACallN P T prims k) n ops dr tot i l tm H tm' H'
  | [], _, _, _, _, _, h => ⟨0, h⟩
  | o :: rest, i, tm, H, tm', H', ⟨hd, h⟩ => by
    rcases h with ⟨hw, h⟩ | ⟨hw, v, H1, h0, hq, h⟩
    · obtain ⟨k, hk⟩ := AOps.finite h
      exact ⟨k, hd, .inl ⟨hw, hk⟩⟩
    · obtain ⟨k, hk⟩ := AOps.finite h
      obtain ⟨j, hj⟩ := h0.finite
      exact ⟨max k j, hd, .inr ⟨hw, v, H1, hj.mono fun _ _ _ _ _ h => h.le (by omega), hq, hk.mono (fun _ _ _ _ _ h => h.le (by omega)) fun _ h => h⟩⟩

theorem AExec.finite {n : Nat} {c : Code} {tm tm' : Tm} {H H' : AH} {e : AExit} (h : AExec T (ACall P T prims) n c tm H e tm' H') : ∃ k, AExec T (ACallN P T prims k) n c tm H e tm' H' := by
  induction h with
  | skip => exact ⟨0, .skip⟩
  | label => exact ⟨0, .label⟩
  | exit => exact ⟨0, .exit⟩
  | ret => exact ⟨0, .ret⟩
  | region h => obtain ⟨k, hk⟩ := h.finite; exact ⟨k, .region hk⟩
  | draw hok h => obtain ⟨k, hk⟩ := h.finite; exact ⟨k, .draw hok hk⟩
  | seq _ _ i1 i2 =>
    obtain ⟨k, hk⟩ := i1; obtain ⟨j, hj⟩ := i2
    exact ⟨max k j, .seq (hk.mono fun _ _ _ _ _ h => h.le (by omega)) (hj.mono fun _ _ _ _ _ h => h.le (by omega))⟩
  | seqOut _ he i => obtain ⟨k, hk⟩ := i; exact ⟨k, .seqOut hk he⟩
  | cond hc _ i => obtain ⟨k, hk⟩ := i; exact ⟨k, .cond hc hk⟩
  | block _ he i => obtain ⟨k, hk⟩ := i; exact ⟨k, .block hk he⟩
  | blockOut _ i => obtain ⟨k, hk⟩ := i; exact ⟨k, .blockOut hk⟩
  | loop _ _ i1 i2 =>
    obtain ⟨k, hk⟩ := i1; obtain ⟨j, hj⟩ := i2
    exact ⟨max k j, .loop (hk.mono fun _ _ _ _ _ h => h.le (by omega)) (hj.mono fun _ _ _ _ _ h => h.le (by omega))⟩
  | loopOut _ he i => obtain ⟨k, hk⟩ := i; exact ⟨k, .loopOut hk he⟩

/-- A call comes to its end, and Q holds of it. -/
def Ev (P : Program) (T : TT) (prims : PrimT) (f : FuncId) (args : List AV) (H : AH) (Q : AV → AH → Prop) : Prop := ∃ v H', ACall P T prims f args H v H' ∧ Q v H'

theorem Ev.mono {f : FuncId} {args : List AV} {H : AH} {Q Q' : AV → AH → Prop} (h : Ev P T prims f args H Q) (hq : ∀ v H', Q v H' → Q' v H') : Ev P T prims f args H Q' :=
  let ⟨v, H', h1, h2⟩ := h; ⟨v, H', h1, hq _ _ h2⟩

/-- Code comes to its end, and Q holds there. -/
def AW (P : Program) (T : TT) (prims : PrimT) (n : Nat) (c : Code) (tm : Tm) (H : AH) (Q : AExit → Tm → AH → Prop) : Prop := ∃ e tm' H', AExec T (ACall P T prims) n c tm H e tm' H' ∧ Q e tm' H'

/-- What a function's end must be. -/
def AEnd (T : TT) (rs : List ResultVar) (Q : AV → AH → Prop) : AExit → Tm → AH → Prop
  | .exit _, _, _ => False
  | _, tm, H => match ares T tm H rs with
    | some vs => Q (aresult vs) H
    | none => False

theorem Ev.enter {f : FuncId} {args : List AV} {H : AH} {Q : AV → AH → Prop} {fn : Func} {c : Code} (hp : prims f = none) (hf : P.funcs[f]? = some fn) (hb : fn.body = some c) (hn : (fn.name == "runtime.NumGoroutine") = false)
    (hl : args.length ≤ fn.ntmps) (h : AW P T prims fn.ntmps c (tm0 args) H (AEnd T fn.results.toList Q)) : Ev P T prims f args H Q := by
  obtain ⟨e, tm', H', hx, hq⟩ := h
  obtain ⟨k, hk⟩ := hx.finite
  have main : ∀ vs, ares T tm' H' fn.results.toList = some vs → (∀ id, e ≠ .exit id) → ACall P T prims f args H (aresult vs) H' := by
    intro vs hv he
    refine ⟨k + 1, ?_⟩
    unfold ACallN
    rw [hp]
    exact ⟨fn, c, e, tm', vs, hf, hb, hn, hl, hk, he, hv, rfl⟩
  cases e with
  | exit id => exact hq.elim
  | normal =>
    simp only [AEnd] at hq
    split at hq
    · rename_i vs hv; exact ⟨_, _, main vs hv (by simp), hq⟩
    · exact hq.elim
  | ret =>
    simp only [AEnd] at hq
    split at hq
    · rename_i vs hv; exact ⟨_, _, main vs hv (by simp), hq⟩
    · exact hq.elim

/-- A function known by what it does. -/
theorem Ev.prim {f : FuncId} {g : List AV → AH → AV → AH → Prop} (hp : prims f = some g) {args : List AV} {H : AH} {v : AV} {H' : AH} {Q : AV → AH → Prop} (h : g args H v H') (hq : Q v H') : Ev P T prims f args H Q :=
  ⟨v, H', ⟨1, by unfold ACallN; rw [hp]; exact h⟩, hq⟩

def Q1 (Q : AExit → Tm → AH → Prop) (K : Tm → AH → Prop) : AExit → Tm → AH → Prop
  | .normal, tm, H => K tm H
  | e, tm, H => Q e tm H

def QB (id : Nat) (Q : AExit → Tm → AH → Prop) : AExit → Tm → AH → Prop
  | .exit i, tm, H => if i = id then Q .normal tm H else Q (.exit i) tm H
  | e, tm, H => Q e tm H

variable {n : Nat} {tm : Tm} {H : AH} {Q : AExit → Tm → AH → Prop}

theorem AW.mono {c : Code} {Q' : AExit → Tm → AH → Prop} (h : AW P T prims n c tm H Q) (hq : ∀ e tm H, Q e tm H → Q' e tm H) : AW P T prims n c tm H Q' :=
  let ⟨e, tm', H', h1, h2⟩ := h; ⟨e, tm', H', h1, hq _ _ _ h2⟩
theorem AW.skip (h : Q .normal tm H) : AW P T prims n .skip tm H Q := ⟨_, _, _, .skip, h⟩
theorem AW.exit {id : Nat} (h : Q (.exit id) tm H) : AW P T prims n (.exit id) tm H Q := ⟨_, _, _, .exit, h⟩
theorem AW.ret (h : Q .ret tm H) : AW P T prims n .ret tm H Q := ⟨_, _, _, .ret, h⟩
theorem AW.seq {x y : Code} (h : AW P T prims n x tm H (Q1 Q fun tm H => AW P T prims n y tm H Q)) : AW P T prims n (.seq x y) tm H Q := by
  obtain ⟨e, tm1, H1, h1, h2⟩ := h
  cases e with
  | normal => obtain ⟨e, tm2, H2, h3, h4⟩ := h2; exact ⟨_, _, _, .seq h1 h3, h4⟩
  | exit id => exact ⟨_, _, _, .seqOut h1 (by simp), h2⟩
  | ret => exact ⟨_, _, _, .seqOut h1 (by simp), h2⟩
theorem AW.cond {c : Operand} {x y : Code} {t : Bool} (hc : ev tm c = .bool t) (h : AW P T prims n (if t then x else y) tm H Q) : AW P T prims n (.cond c x y) tm H Q := by
  obtain ⟨e, tm1, H1, h1, h2⟩ := h
  exact ⟨_, _, _, .cond hc h1, h2⟩
theorem AW.block {id : Nat} {c : Code} (h : AW P T prims n c tm H (QB id Q)) : AW P T prims n (.block id c) tm H Q := by
  obtain ⟨e, tm1, H1, h1, h2⟩ := h
  cases e with
  | normal => exact ⟨_, _, _, .block h1 (by simp), h2⟩
  | exit i =>
    simp only [QB] at h2
    split at h2
    · rename_i e; subst e; exact ⟨_, _, _, .blockOut h1, h2⟩
    · rename_i e; exact ⟨_, _, _, .block h1 (by simpa using e), h2⟩
  | ret => exact ⟨_, _, _, .block h1 (by simp), h2⟩
/-- A loop: 'I k': what holds with at most k rounds to go. -/
theorem AW.loop {c : Code} (I : Nat → Tm → AH → Prop) (k : Nat) (h0 : I k tm H) (hr : ∀ k tm H, I k tm H → AW P T prims n c tm H (Q1 Q fun tm' H' => ∃ j, j < k ∧ I j tm' H')) : AW P T prims n (.loop c) tm H Q := by
  induction k using Nat.strongRecOn generalizing tm H with
  | _ k ih =>
    obtain ⟨e, tm1, H1, h1, h2⟩ := hr k tm H h0
    cases e with
    | normal =>
      obtain ⟨j, hj, hI⟩ := h2
      obtain ⟨e, tm2, H2, h3, h4⟩ := ih j hj hI
      exact ⟨_, _, _, .loop h1 h3, h4⟩
    | exit id => exact ⟨_, _, _, .loopOut h1 (by simp), h2⟩
    | ret => exact ⟨_, _, _, .loopOut h1 (by simp), h2⟩

/-- Operations, one after the other, with what follows. -/
def VOps (P : Program) (T : TT) (prims : PrimT) (n : Nat) (ops : Array Oper) (dr : Dr) (tot : List Nat) : Nat → List Oper → Tm → AH → (Tm → AH → Prop) → Prop
  | _, [], tm, H, K => K tm H
  | i, o :: rest, tm, H, K =>
    match awanted ops tm o with
    | none => False
    | some false => dstOk n o.dst = true ∧ VOps P T prims n ops dr tot (i + 1) rest (tm.put o.dst (.tup [])) H K
    | some true => dstOk n o.dst = true ∧
      match o.op with
      | .call c => match c.callee with
        | .value f => match ev tm f with
          | .fn g cap => Ev P T prims g (c.args.toList.map (ev tm) ++ cap) H fun v H1 =>
              DD T dr (tot.contains i) i tm o.op H v H1 ∧ VOps P T prims n ops dr tot (i + 1) rest (tm.put o.dst v) H1 K
          | _ => False
        | _ => match aop T tm H o.op with
          | some (v, H1) => DD T dr (tot.contains i) i tm o.op H v H1 ∧ VOps P T prims n ops dr tot (i + 1) rest (tm.put o.dst v) H1 K
          | none => False
      | op => match aop T tm H op with
        | some (v, H1) => DD T dr (tot.contains i) i tm o.op H v H1 ∧ VOps P T prims n ops dr tot (i + 1) rest (tm.put o.dst v) H1 K
        | none => False

theorem VOps.ops' {ops : Array Oper} {dr : Dr} {tot : List Nat} : ∀ {l : List Oper} {i : Nat} {tm : Tm} {H : AH} {K : Tm → AH → Prop}, VOps P T prims n ops dr tot i l tm H K →
    ∃ tm' H', AOps T (ACall P T prims) n ops dr (fun i => tot.contains i) i l tm H tm' H' ∧ K tm' H'
  | [], i, tm, H, K, h => ⟨tm, H, ⟨rfl, rfl⟩, h⟩
  | o :: rest, i, tm, H, K, h => by
    unfold VOps at h
    split at h
    · exact h.elim
    · rename_i hw
      obtain ⟨hd, h⟩ := h
      obtain ⟨tm', H', h1, h2⟩ := VOps.ops' h
      exact ⟨tm', H', ⟨hd, .inl ⟨hw, h1⟩⟩, h2⟩
    · rename_i hw
      obtain ⟨hd, h⟩ := h
      have plain : ∀ {v : AV} {H1 : AH}, AOp T (ACall P T prims) tm H o.op v H1 → (DD T dr (tot.contains i) i tm o.op H v H1 ∧ VOps P T prims n ops dr tot (i + 1) rest (tm.put o.dst v) H1 K) →
          ∃ tm' H', AOps T (ACall P T prims) n ops dr (fun i => tot.contains i) i (o :: rest) tm H tm' H' ∧ K tm' H' := by
        intro v H1 h0 ⟨hq, hr⟩
        obtain ⟨tm', H', h1, h2⟩ := VOps.ops' hr
        exact ⟨tm', H', ⟨hd, .inr ⟨hw, v, H1, h0, hq, h1⟩⟩, h2⟩
      split at h
      · rename_i c hop
        split at h
        · rename_i f hcal
          split at h
          · rename_i g cap hg
            obtain ⟨v, H1, hc, hk⟩ := h
            exact plain (by simp only [AOp, hop, hcal, hg]; exact hc) hk
          · exact h.elim
        · rename_i hcal
          split at h
          · rename_i v H1 ha
            refine plain (v := v) (H1 := H1) ?_ h
            simp only [AOp, hop]
            rw [← hop]
            exact ha
          · exact h.elim
      · rename_i hop
        split at h
        · rename_i v H1 ha
          refine plain (v := v) (H1 := H1) ?_ h
          unfold AOp
          split
          · rename_i c e; exact absurd e (hop c)
          · exact ha
        · exact h.elim

theorem AW.region {id : Nat} {ops : Array Oper} (h : VOps P T prims n ops .no [] 0 ops.toList tm H fun tm H => Q .normal tm H) : AW P T prims n (.region id ops false) tm H Q := by
  obtain ⟨tm', H', h1, h2⟩ := h.ops'
  exact ⟨_, _, _, .region (h1.mono (fun _ _ _ _ _ h => h) fun i hi => by simp at hi), h2⟩

/-- The region may be drawn; 'tl': operations that stand in order with all others but those of 'ind'. -/
def drawOK (ops : Array Oper) (ind tl : List Nat) : Bool := regOK ops && tl.all (totOK ops ind)

theorem AW.draw {id : Nat} {ops : Array Oper} (W : Nat → Prop) (ind tl : List Nat) (hok : drawOK ops ind tl = true) (h : VOps P T prims n ops (.yes W ind) tl 0 ops.toList tm H fun tm H => Q .normal tm H) : AW P T prims n (.region id ops true) tm H Q := by
  obtain ⟨tm', H', h1, h2⟩ := h.ops'
  simp only [drawOK, Bool.and_eq_true] at hok
  refine ⟨_, _, _, .draw hok.1 (h1.mono (fun _ _ _ _ _ h => h) fun i hi => List.all_eq_true.1 hok.2 i (by simpa using hi)), h2⟩

end

/-- Old memory is as it was. -/
structure Ext (H H' : AH) : Prop where
  size : H.size ≤ H'.size
  quiet : Quiet H H'

theorem Quiet.refl (H : AH) : Quiet H H := fun _ _ => rfl
theorem Ext.refl (H : AH) : Ext H H := ⟨Nat.le_refl _, fun _ _ => rfl⟩
theorem Ext.trans {H H1 H2 : AH} (h : Ext H H1) (k : Ext H1 H2) : Ext H H2 :=
  ⟨Nat.le_trans h.size k.size, fun b hb => by rw [k.quiet b (Nat.lt_of_lt_of_le hb h.size), h.quiet b hb]⟩
theorem Ext.push (H : AH) (x : ABlk) : Ext H (H.push x) := ⟨Nat.le_succ _, fun b hb => AH.push_ne _ _ (by omega)⟩
theorem Quiet.push (H : AH) (x : ABlk) : Quiet H (H.push x) := (Ext.push H x).quiet
theorem Ext.live {H H' : AH} (h : Ext H H') {b : Nat} (hl : (H.blk b).live = true) : H'.blk b = H.blk b := h.quiet b (H.lt hl)
theorem Ext.cells {H H' : AH} (h : Ext H H') {b e : Nat} {ro : Bool} {xs : List AV} (hb : H.blk b = .cells e ro xs) : H'.blk b = .cells e ro xs := by
  rw [h.live (by rw [hb]; rfl), hb]
theorem AH.cells_lt {H : AH} {b e : Nat} {ro : Bool} {xs : List AV} (hb : H.blk b = .cells e ro xs) : b < H.size := H.lt (by rw [hb]; rfl)

end Go.Proofs.Ytopbfmhajbjepaa
