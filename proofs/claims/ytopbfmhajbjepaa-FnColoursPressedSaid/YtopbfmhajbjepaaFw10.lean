/- Regions: in the order of the text, and in whatever order the edges allow. -/
import Derived.Test.YtopbfmhajbjepaaFw9
namespace Go.Proofs.Ytopbfmhajbjepaa
open Go
set_option linter.unusedSectionVars false
set_option linter.unusedSimpArgs false
set_option linter.unusedVariables false

/-- 'C f args H v H'': called with 'args' in memory 'H', function 'f' returns 'v' and leaves 'H''. -/
abbrev CT := FuncId → List AV → AH → AV → AH → Prop

/-- One operation, a call too. -/
def AOp (T : TT) (C : CT) (tm : Tm) (H : AH) (op : Op) (v : AV) (H' : AH) : Prop :=
  match op with
  | .call c => match c.callee with
    | .value f => match ev tm f with
      | .fn g cap => C g (c.args.toList.map (ev tm) ++ cap) H v H'
      | _ => False
    | _ => aop T tm H op = some (v, H')
  | _ => aop T tm H op = some (v, H')

/-- Nothing that was there turns. -/
def Quiet (H H' : AH) : Prop := ∀ b, b < H.size → H'.blk b = H.blk b

/-- How a region is carried out: in the order of the text; or in any order: 'W': the blocks that its writers write, 'ind': operations that see none of these. -/
inductive Dr where
  | no
  | yes (W : Nat → Prop) (ind : List Nat)
abbrev Dr.all : Dr := .yes (fun _ => True) []
open Classical in
/-- Memory without the blocks W. -/
noncomputable def AH.drop (H : AH) (W : Nat → Prop) : AH := ⟨H.size, fun b => if W b then .dead else H.blk b, fun b h => by split; rfl; exact H.out b h⟩
/-- Nothing turns but blocks of W. -/
def QX (W : Nat → Prop) (H H' : AH) : Prop := ∀ b, b < H.size → ¬ W b → H'.blk b = H.blk b
/-- What an operation of a region that draws must be: it turns nothing old, or it stands in order and turns W alone; an independent one does the same where W is gone. -/
def DD (T : TT) (dr : Dr) (tt : Bool) (i : Nat) (tm : Tm) (op : Op) (H : AH) (v : AV) (H1 : AH) : Prop :=
  match dr with
  | .no => True
  | .yes W ind => (Quiet H H1 ∨ tt = true ∧ QX W H H1) ∧ (ind.contains i = true → Quiet H H1 ∧ (∀ b, H.size ≤ b → b < H1.size → ¬ W b) ∧ aop T tm (H.drop W) op = some (v, H1.drop W))
theorem DD.mono {T : TT} {dr : Dr} {tt tt' : Bool} {i : Nat} {tm : Tm} {op : Op} {H H1 : AH} {v : AV} (h : DD T dr tt i tm op H v H1) (k : tt = true → tt' = true) : DD T dr tt' i tm op H v H1 := by
  cases dr with
  | no => trivial
  | yes W ind => exact ⟨h.1.imp id fun h => ⟨k h.1, h.2⟩, h.2⟩

def Tm.put (tm : Tm) (d : Option Tmp) (v : AV) : Tm :=
  match d with
  | some d => tm.upd d v
  | none => tm

/-- Whether an operation that is guarded is carried out. -/
def awanted (ops : Array Oper) (tm : Tm) (o : Oper) : Option Bool :=
  match o.guard with
  | none => some true
  | some (j, want) => match (ops[j]?).bind (·.dst) with
    | some d => match tm d with
      | .bool b => some (b == want)
      | .tup [] => some false
      | _ => none
    | none => none

def dstOk (n : Nat) (d : Option Tmp) : Bool :=
  match d with
  | some d => decide (d < n)
  | none => true

/-- Operations one after the other: 'n' slots; 'dr': whether the region draws its order; 'tot': the operations that stand in order with all others. -/
def AOps (T : TT) (C : CT) (n : Nat) (ops : Array Oper) (dr : Dr) (tot : Nat → Bool) : Nat → List Oper → Tm → AH → Tm → AH → Prop
  | _, [], tm, H, tm', H' => tm' = tm ∧ H' = H
  | i, o :: rest, tm, H, tm', H' => dstOk n o.dst = true ∧
    ((awanted ops tm o = some false ∧ AOps T C n ops dr tot (i + 1) rest (tm.put o.dst (.tup [])) H tm' H') ∨
     (awanted ops tm o = some true ∧ ∃ v H1, AOp T C tm H o.op v H1 ∧ DD T dr (tot i) i tm o.op H v H1 ∧ AOps T C n ops dr tot (i + 1) rest (tm.put o.dst v) H1 tm' H'))

/-- The same with what is to follow. -/
def WOps0 (T : TT) (C : CT) (n : Nat) (ops : Array Oper) (dr : Dr) (tot : Nat → Bool) : Nat → List Oper → Tm → AH → (Tm → AH → Prop) → Prop
  | _, [], tm, H, K => K tm H
  | i, o :: rest, tm, H, K => dstOk n o.dst = true ∧
    match awanted ops tm o with
    | none => False
    | some false => WOps0 T C n ops dr tot (i + 1) rest (tm.put o.dst (.tup [])) H K
    | some true => ∃ v H1, AOp T C tm H o.op v H1 ∧ DD T dr (tot i) i tm o.op H v H1 ∧ WOps0 T C n ops dr tot (i + 1) rest (tm.put o.dst v) H1 K

theorem WOps0.ops {T : TT} {C : CT} {n : Nat} {ops : Array Oper} {dr : Dr} {tot : Nat → Bool} : ∀ {l : List Oper} {i : Nat} {tm : Tm} {H : AH} {K : Tm → AH → Prop}, WOps0 T C n ops dr tot i l tm H K →
    ∃ tm' H', AOps T C n ops dr tot i l tm H tm' H' ∧ K tm' H'
  | [], i, tm, H, K, h => ⟨tm, H, ⟨rfl, rfl⟩, h⟩
  | o :: rest, i, tm, H, K, ⟨hd, h⟩ => by
    cases hw : awanted ops tm o with
    | none => rw [hw] at h; exact h.elim
    | some b =>
      rw [hw] at h
      cases b with
      | false =>
        obtain ⟨tm', H', h1, h2⟩ := WOps0.ops h
        exact ⟨tm', H', ⟨hd, .inl ⟨hw, h1⟩⟩, h2⟩
      | true =>
        obtain ⟨v, H1, h0, hq, h⟩ := h
        obtain ⟨tm', H', h1, h2⟩ := WOps0.ops h
        exact ⟨tm', H', ⟨hd, .inr ⟨hw, v, H1, h0, hq, h1⟩⟩, h2⟩

/-- What a call does to a world. -/
def CallSim (P : Program) (C : CT) : Prop :=
  ∀ f args H v H', C f args H v H' → ∀ μ w vs, Rel μ H w → VRels μ args vs.toList → Free μ H.size H'.size →
    Calls P f vs w fun e w' => ∃ v' μ', e = .returned v' ∧ Conc μ μ' H H' w w' ∧ VRel μ' v v'

/-- The slots of the frame. -/
structure TRel (μ : Mu) (n : Nat) (tm : Tm) (a : Act) : Prop where
  size : a.tmps.size = n
  defers : a.defers = []
  rel : ∀ t, VRel μ (tm t) (a.tmps.getD t undef)

theorem TRel.mono {μ μ' : Mu} (h : μ.le μ') {n : Nat} {tm : Tm} {a : Act} (r : TRel μ n tm a) : TRel μ' n tm a := ⟨r.size, r.defers, fun t => VRel.mono h _ _ (r.rel t)⟩

theorem TRel.ev {μ : Mu} {n : Nat} {tm : Tm} {a : Act} (r : TRel μ n tm a) (x : Operand) : VRel μ (ev tm x) (a.eval x) := by
  cases a with
  | mk tmps dfs => exact ev_rel r.rel x

theorem getD_set (xs : Array Value) (d t : Nat) (v : Value) : (xs.setIfInBounds d v).getD t undef = if d = t ∧ d < xs.size then v else xs.getD t undef := by
  simp only [Array.getD_eq_getD_getElem?, Array.getElem?_setIfInBounds]
  split
  · rename_i h; subst h
    split
    · rename_i h1; rw [if_pos ⟨rfl, h1⟩]; rfl
    · rename_i h1; rw [if_neg (fun k => h1 k.2)]; simp [Array.getElem?_eq_none (show xs.size ≤ d by omega)]
  · rename_i h; rw [if_neg (fun k => h k.1)]

theorem TRel.put {μ : Mu} {n : Nat} {tm : Tm} {a : Act} (r : TRel μ n tm a) {d : Option Tmp} (hd : dstOk n d = true) {v : AV} {v' : Value} (hv : VRel μ v v') : TRel μ n (tm.put d v) (a.put d v') := by
  cases d with
  | none => exact r
  | some d =>
    have hlt : d < a.tmps.size := by rw [r.size]; simpa [dstOk] using hd
    refine ⟨by simp [Act.put, r.size], r.defers, fun t => ?_⟩
    simp only [Act.put, getD_set, Tm.put, Tm.upd]
    by_cases e : t = d
    · subst e; rw [if_pos rfl, if_pos ⟨rfl, hlt⟩]; exact hv
    · rw [if_neg e, if_neg (fun k => e k.1.symm)]; exact r.rel t

theorem wanted_rel {μ : Mu} {tm : Tm} {tmps : Array Value} {ops : Array Oper} {o : Oper} {b : Bool} (h : awanted ops tm o = some b)
    (hr : ∀ t, t ∈ o.looksAt ops → VRel μ (tm t) (tmps.getD t undef)) : Region.wanted o (yielded ops tmps) = b := by
  unfold awanted at h
  unfold Region.wanted
  split at h
  · rename_i hg; rw [hg]; cases h; rfl
  · rename_i j want hg
    rw [hg]
    simp only
    split at h
    · rename_i d hd
      split at h
      · rename_i x hx
        cases h
        have hm : d ∈ o.looksAt ops := by unfold Oper.looksAt; rw [hg]; simp [hd]
        have hv := hr d hm
        rw [hx] at hv
        simp only [VRel] at hv
        have h2 : tmps[d]? = some (.bool x) := by
          rw [Array.getD_eq_getD_getElem?] at hv
          cases hq : tmps[d]? with
          | none => rw [hq] at hv; simp [undef] at hv
          | some q => rw [hq] at hv; simp at hv; rw [hv]
        have hy : yielded ops tmps j = some x := by unfold yielded; rw [hd]; simp [h2]
        rw [hy]
        cases x <;> cases want <;> rfl
      · rename_i hx
        cases h
        have hm : d ∈ o.looksAt ops := by unfold Oper.looksAt; rw [hg]; simp [hd]
        have hv := hr d hm
        rw [hx] at hv
        obtain ⟨xs, hv, hxs⟩ := hv
        have hxs : xs = #[] := by simpa [VRels] using hxs
        subst hxs
        have hy : yielded ops tmps j = none := by
          unfold yielded; rw [hd]; simp only [Option.bind_some]
          rw [Array.getD_eq_getD_getElem?] at hv
          cases hq : tmps[d]? with
          | none => rfl
          | some q => rw [hq] at hv; simp at hv; rw [hv]
        rw [hy]; rfl
      · cases h
    · cases h

/-- An operation sees its operands alone. -/
theorem aop_congr {T : TT} {H : AH} {tm tm' : Tm} {op : Op} (h : ∀ x, x ∈ op.operands → ev tm x = ev tm' x) : aop T tm H op = aop T tm' H op := by
  have parts : ∀ ps : Array (Nat × Operand), (∀ x ∈ (ps.toList.map (·.2)).toArray, ev tm x = ev tm' x) →
      (ps.toList.map fun (i, x) => (i, ev tm x)) = (ps.toList.map fun (i, x) => (i, ev tm' x)) := by
    intro ps hp
    apply List.map_congr_left
    intro p hm
    show (p.1, ev tm p.2) = (p.1, ev tm' p.2)
    rw [hp p.2 (by simp; exact ⟨p.1, by simpa using hm⟩)]
  have arr : ∀ xs : Array Operand, (∀ x ∈ xs, ev tm x = ev tm' x) → xs.toList.map (ev tm) = xs.toList.map (ev tm') := by
    intro xs hx
    apply List.map_congr_left
    intro x hm
    exact hx x (by simpa using hm)
  have opt : ∀ x : Option Operand, (∀ y ∈ x.toArray, ev tm y = ev tm' y) → x.map (ev tm) = x.map (ev tm') := by
    intro x hx
    cases x with
    | none => rfl
    | some x => simp [hx x (by simp)]
  cases op <;> simp only [aop] <;> simp only [Op.operands] at h
  case build t ps => rw [parts ps h]
  case buildSlice t l ps => rw [parts ps h]
  case makeFunc fn first captured =>
    cases fn <;> first | rfl | skip
    simp only
    split
    · rw [arr captured (fun x hx => h x (by simp [hx]))]
    · rfl
  case slice t x lo hi mx =>
    cases mx with
    | some _ => rfl
    | none =>
      simp only
      rw [h x (by simp), opt lo (fun y hy => h y (by simp at hy ⊢; simp [hy])), opt hi (fun y hy => h y (by simp at hy ⊢; simp [hy]))]
  case call c =>
    split
    · rw [arr c.args (fun x hx => h x (by simp [Call.operands, hx]))]
    · rfl
  all_goals first
    | rfl
    | (rename_i x y z; rw [h x (by simp), h y (by simp), h z (by simp)]; done)
    | (rename_i t x y; rw [h x (by simp), h y (by simp)]; done)
    | (rename_i op t x y t'; rw [h x (by simp), h y (by simp)]; done)
    | (rename_i x; rw [h x (by simp)]; done)
    | (rename_i t x; rw [h x (by simp)]; done)
    | (rename_i x t; rw [h x (by simp)]; done)
    | (rename_i op t x; rw [h x (by simp)]; done)
    | (rename_i t x f; rw [h x (by simp)]; done)

def looks (o : Oper) : List Tmp := o.op.operands.toList.filterMap fun | .tmp t => some t | _ => none

/-- The slots that an operation looks at, and no others. -/
def Tm.only (tm : Tm) (l : List Tmp) : Tm := fun t => if t ∈ l then tm t else .undef

theorem ev_only (tm : Tm) (o : Oper) {x : Operand} (h : x ∈ o.op.operands) : ev tm x = ev (tm.only (looks o)) x := by
  cases x with
  | tmp t =>
    have : t ∈ looks o := by unfold looks; rw [List.mem_filterMap]; exact ⟨.tmp t, by simpa using h, rfl⟩
    simp [ev, Tm.only, this]
  | _ => rfl

theorem AH.kill_size {H H1 : AH} {s : AV} (h : H.kill s = some H1) : H1.size = H.size := by
  unfold AH.kill at h
  split at h
  · cases h; rfl
  · split at h
    · cases h; rfl
    · cases h
  · cases h

theorem aop_size {T : TT} {H H' : AH} {tm : Tm} {op : Op} {v : AV} (h : aop T tm H op = some (v, H')) : H.size ≤ H'.size := by
  have keep : ∀ {x : Option AV}, x.map (fun v => (v, H)) = some (v, H') → H.size ≤ H'.size := by
    intro x hx
    obtain ⟨_, _, e⟩ := map_some_inv hx
    cases e; exact Nat.le_refl _
  cases op <;> simp only [aop] at h
  case slice t x lo hi mx =>
    cases mx
    · exact keep h
    · cases h
  case store t a x =>
    split at h
    · obtain ⟨H1, hs, e⟩ := map_some_inv h
      cases e
      unfold astore at hs
      split at hs
      · split at hs <;> split at hs <;> first | (cases hs; exact Nat.le_refl _) | cases hs
      · cases hs
    · cases h
  case makeFunc fn first captured =>
    cases fn <;> simp only at h
    · split at h
      · cases h; exact Nat.le_refl _
      · cases h
    all_goals cases h
  case makeSlice t l c =>
    unfold amakeSlice at h
    repeat' (split at h)
    all_goals first | (cases h; done) | (cases h; simp only [AH.push]; omega)
  case buildSlice t l ps =>
    unfold abuildSlice at h
    repeat' (split at h)
    all_goals first | (cases h; done) | (cases h; simp only [AH.push]; omega)
  case call c =>
    split at h
    · unfold abuiltin at h
      split at h
      · split at h
        · exact keep h
        · cases h
      · unfold aappend at h
        repeat' (split at h)
        all_goals first
          | (cases h; done)
          | (cases h; exact Nat.le_refl _)
          | (rename_i H1 hk; cases h; have := AH.kill_size hk; simp only [AH.push]; omega)
      · cases h
    · cases h
  all_goals first
    | (cases h; done)
    | exact keep h
    | (cases h; exact Nat.le_refl _)
    | (split at h <;> first | (cases h; done) | exact keep h | (cases h; exact Nat.le_refl _) | (cases h; simp only [AH.push]; omega))

section
variable {P : Program} {T : TT} (hT : ∀ t d, T t = some d → TDOK P t d) {C : CT} (hC : CallSim P C)
  (hext : ∀ f, (∀ args H v H', C f args H v H' → ∃ fn, P.funcs[f]? = some fn ∧ fn.body.isSome = true ∧ (fn.name == "runtime.NumGoroutine") = false))
  (hsz : ∀ f args H v H', C f args H v H' → H.size ≤ H'.size)

include hsz in
theorem op_size {tm : Tm} {H H' : AH} {op : Op} {v : AV} (h : AOp T C tm H op v H') : H.size ≤ H'.size := by
  unfold AOp at h
  split at h
  · split at h
    · split at h
      · exact hsz _ _ _ _ _ h
      · exact h.elim
    · exact aop_size h
  · exact aop_size h

include hsz in
theorem ops_size {n : Nat} {ops : Array Oper} {dr : Dr} {tot : Nat → Bool} : ∀ {l : List Oper} {i : Nat} {tm : Tm} {H : AH} {tm' : Tm} {H' : AH}, AOps T C n ops dr tot i l tm H tm' H' → H.size ≤ H'.size
  | [], i, tm, H, tm', H', h => by obtain ⟨_, rfl⟩ := h; exact Nat.le_refl _
  | o :: rest, i, tm, H, tm', H', ⟨_, h⟩ => by
    rcases h with ⟨_, h⟩ | ⟨_, v, H1, h0, _, h⟩
    · exact ops_size h
    · exact Nat.le_trans (op_size hsz h0) (ops_size h)

include hT hC hext

/-- One operation in a world. -/
theorem op_sim {μ : Mu} {H H' : AH} {w : World} (hR : Rel μ H w) {tm : Tm} {a : Act} {o : Oper} (hρ : ∀ t, t ∈ looks o → VRel μ (tm t) (a.tmps.getD t undef)) {v : AV} (h : AOp T C tm H o.op v H')
    (hf : Free μ H.size H'.size) {K : Act → World → Prop} {Q : Exit → Act → World → Prop}
    (hK : ∀ μ' v' w', Conc μ μ' H H' w w' → VRel μ' v v' → K (a.put o.dst v') w') : o.wp P a w K Q := by
  have hall : ∀ x, VRel μ (ev (tm.only (looks o)) x) (a.eval x) := by
    intro x
    cases a with
    | mk tmps dfs =>
      refine ev_rel (fun t => ?_) x
      unfold Tm.only
      split
      · rename_i ht; exact hρ t ht
      · trivial
  have plain : aop T tm H o.op = some (v, H') → o.wp P a w K Q := by
    intro ha
    rw [aop_congr fun x hx => ev_only tm o hx] at ha
    obtain ⟨nx, μ', w', hr, hc, hv⟩ := aop_sound hT hR hall ha hf
    unfold Oper.wp
    rw [hr]
    rcases hv with ⟨rfl, rfl⟩ | ⟨v', rfl, hv⟩
    · exact hK μ' undef w' hc trivial
    · exact hK μ' v' w' hc hv
  unfold AOp at h
  split at h
  · rename_i c hop
    split at h
    · rename_i f hcal
      split at h
      · rename_i g cap hg
        have hfe := hall f
        rw [← ev_only tm o (by rw [hop]; simp [Op.operands, Call.operands, hcal]), hg] at hfe
        simp only [VRel] at hfe
        obtain ⟨cs, hcs, hrel⟩ := hfe
        have hcall := hC g _ H v H' h μ w (c.args.map a.eval ++ cs) hR (by
          rw [Array.toList_append]
          refine VRels.append _ _ _ _ ?_ hrel
          apply VRels.of
          · simp
          · intro i x hi
            simp only [List.getElem?_map, Option.map_eq_some_iff] at hi
            obtain ⟨y, hy, rfl⟩ := hi
            have hy' : c.args[i]? = some y := by simpa using hy
            refine ⟨a.eval y, by simp [hy'], ?_⟩
            rw [ev_only tm o (by rw [hop]; simp only [Op.operands, Call.operands, Array.mem_append]; exact .inr (Array.mem_of_getElem? hy'))]
            exact hall y) hf
        obtain ⟨fn, hfn, hbody, hname⟩ := hext g _ H v H' h
        have hres : (execOp a.eval o).run P w = .ok (.enter g (c.args.map a.eval ++ cs)) w := by
          have hb : fn.body ≠ none := by intro k; rw [k] at hbody; cases hbody
          have hn : fn.name ≠ "runtime.NumGoroutine" := by simpa using hname
          simp only [execOp, hop, resolve, hcal, hcs, Deferred.ofValue, pure_bind, invoke, callFunc, Sem.run_bind]
          simp [program, Sem.run, hfn, hn, hb]
        unfold Oper.wp
        rw [hres]
        refine hcall.mono fun e w' ⟨v', μ', he, hc, hv⟩ => ?_
        subst he
        exact hK μ' v' w' hc hv
      · exact h.elim
    · exact plain h
  · exact plain h

include hsz in
/-- Operations in the order of the text. -/
theorem ops_sim (n : Nat) (ops : Array Oper) (dr : Dr) (tot : Nat → Bool) {Q : Exit → Act → World → Prop} : ∀ (l : List Oper) (i : Nat) (μ : Mu) (H : AH) (w : World) (tm : Tm) (a : Act) (tm' : Tm) (H' : AH), Rel μ H w → TRel μ n tm a →
    AOps T C n ops dr tot i l tm H tm' H' → Free μ H.size H'.size →
      (∀ μ' a' w', Conc μ μ' H H' w w' → TRel μ' n tm' a' → Q .normal a' w') → wpList P ops Q l a w := by
  intro l
  induction l with
  | nil =>
    intro i μ H w tm a tm' H' hR hA h hf hK
    obtain ⟨rfl, rfl⟩ := h
    exact hK μ a w (.refl hR) hA
  | cons o rest ih =>
    intro i μ H w tm a tm' H' hR hA h hf hK
    obtain ⟨hd, h⟩ := h
    unfold wpList
    rcases h with ⟨hw, h⟩ | ⟨hw, v, H1, h0, _, h⟩
    · rw [wanted_rel hw (fun t _ => hA.rel t)]
      exact ih (i + 1) μ H w _ _ tm' H' hR (hA.put (v := .tup []) (v' := undef) hd ⟨#[], rfl, rfl⟩) h hf hK
    · rw [wanted_rel hw (fun t _ => hA.rel t)]
      have hs1 := op_size hsz h0
      have hs2 := ops_size hsz h
      refine .inl (op_sim hT hC hext hR (fun t _ => hA.rel t) h0 (hf.left hs2) fun μ' v' w' hc hv => ?_)
      have hle := hc.le (hf.left hs2)
      exact ih (i + 1) μ' H1 w' _ _ tm' H' hc.rel ((hA.mono hle).put hd hv) h (hc.free hf) fun μ2 a2 w2 hc2 hA2 => hK μ2 a2 w2 (hc.trans hc2) hA2

end
end Go.Proofs.Ytopbfmhajbjepaa
