/- The words that a walk's simp uses. -/
import Derived.Test.YtopbfmhajbjepaaFw14
namespace Go.Proofs.Ytopbfmhajbjepaa
open Go
set_option linter.unusedSectionVars false
set_option linter.unusedSimpArgs false
set_option linter.unusedVariables false

section
variable {P : Program} {T : TT} {prims : PrimT} {n : Nat} {tm : Tm} {H : AH} {Q : AExit → Tm → AH → Prop}

theorem AOps.vops {ops : Array Oper} {dr : Dr} {tot : List Nat} : ∀ {l : List Oper} {i : Nat} {tm : Tm} {H : AH} {tm' : Tm} {H' : AH} {K : Tm → AH → Prop}, AOps T (ACall P T prims) n ops dr (fun i => tot.contains i) i l tm H tm' H' → K tm' H' →
    VOps P T prims n ops dr tot i l tm H K
  | [], i, tm, H, tm', H', K, ⟨h1, h2⟩, h => by subst h1; subst h2; exact h
  | o :: rest, i, tm, H, tm', H', K, ⟨hd, h⟩, hK => by
    unfold VOps
    rcases h with ⟨hw, h⟩ | ⟨hw, v, H1, h0, hq, h⟩
    · rw [hw]; exact ⟨hd, AOps.vops h hK⟩
    · rw [hw]
      refine ⟨hd, ?_⟩
      have hr := AOps.vops h hK
      obtain ⟨d, op, ty, pos, af, gd⟩ := o
      simp only at h0 hr hq ⊢
      cases op <;> first
        | (simp only [AOp] at h0; simp only [h0]; exact ⟨hq, hr⟩)
        | skip
      rename_i c
      cases hcal : c.callee with
      | value f =>
        cases hf : ev tm f <;> simp only [AOp, hcal, hf] at h0 ⊢
        exact ⟨v, H1, h0, hq, hr⟩
      | builtin b => simp only [AOp, hcal] at h0 ⊢; rw [h0]; exact ⟨hq, hr⟩
      | invoke r m => simp only [AOp, hcal] at h0 ⊢; rw [h0]; exact ⟨hq, hr⟩

theorem AW_seq {x y : Code} : AW P T prims n (.seq x y) tm H Q ↔ AW P T prims n x tm H (Q1 Q fun tm H => AW P T prims n y tm H Q) := by
  constructor
  · rintro ⟨e, tm', H', h, hq⟩
    cases h with
    | seq h1 h2 => exact ⟨_, _, _, h1, _, _, _, h2, hq⟩
    | seqOut h1 he => exact ⟨_, _, _, h1, by cases e <;> first | exact absurd rfl he | exact hq⟩
  · exact AW.seq
theorem AW_region {id : Nat} {l : List Oper} : AW P T prims n (.region id l.toArray false) tm H Q ↔ VOps P T prims n l.toArray .no [] 0 l tm H fun tm H => Q .normal tm H := by
  constructor
  · rintro ⟨e, tm', H', h, hq⟩
    cases h with
    | region h => exact AOps.vops (tot := []) (by simpa using h) hq
  · intro h; exact AW.region (by simpa using h)
theorem AW_block {id : Nat} {c : Code} : AW P T prims n (.block id c) tm H Q ↔ AW P T prims n c tm H (QB id Q) := by
  constructor
  · rintro ⟨e, tm', H', h, hq⟩
    cases h with
    | block h he => exact ⟨_, _, _, h, by cases e <;> first | exact hq | (show (if _ then _ else _); rw [if_neg (by simpa using he)]; exact hq)⟩
    | blockOut h => exact ⟨_, _, _, h, by show (if _ then _ else _); rw [if_pos rfl]; exact hq⟩
  · exact AW.block
theorem AW_skip : AW P T prims n .skip tm H Q ↔ Q .normal tm H := ⟨fun ⟨_, _, _, h, hq⟩ => by cases h; exact hq, AW.skip⟩
theorem AW_exit {id : Nat} : AW P T prims n (.exit id) tm H Q ↔ Q (.exit id) tm H := ⟨fun ⟨_, _, _, h, hq⟩ => by cases h; exact hq, AW.exit⟩
theorem AW_ret : AW P T prims n .ret tm H Q ↔ Q .ret tm H := ⟨fun ⟨_, _, _, h, hq⟩ => by cases h; exact hq, AW.ret⟩
/-- The test of a branch. -/
def ABr (v : AV) (x y : Prop) : Prop := ∃ t, v = .bool t ∧ (t = true → x) ∧ (t = false → y)
theorem AW_cond {c : Operand} {x y : Code} : AW P T prims n (.cond c x y) tm H Q ↔ ABr (ev tm c) (AW P T prims n x tm H Q) (AW P T prims n y tm H Q) := by
  constructor
  · rintro ⟨e, tm', H', h, hq⟩
    cases h with
    | cond hc h =>
      rename_i t
      refine ⟨t, hc, ?_, ?_⟩ <;> rintro rfl
      · exact ⟨_, _, _, h, hq⟩
      · exact ⟨_, _, _, h, hq⟩
  · rintro ⟨t, hc, h1, h2⟩
    refine AW.cond hc ?_
    cases t
    · exact h2 rfl
    · exact h1 rfl
theorem ABr_true {x y : Prop} : ABr (.bool true) x y ↔ x := ⟨fun ⟨t, e, h, _⟩ => by cases e; exact h rfl, fun h => ⟨true, rfl, fun _ => h, fun e => (by cases e)⟩⟩
theorem ABr_false {x y : Prop} : ABr (.bool false) x y ↔ y := ⟨fun ⟨t, e, _, h⟩ => by cases e; exact h rfl, fun h => ⟨false, rfl, fun e => (by cases e), fun _ => h⟩⟩
theorem ABr_mk {t : Bool} {x y : Prop} (h1 : t = true → x) (h2 : t = false → y) : ABr (.bool t) x y := ⟨t, rfl, h1, h2⟩
theorem Q1_normal {K : Tm → AH → Prop} : Q1 Q K .normal tm H = K tm H := rfl
theorem Q1_ret {K : Tm → AH → Prop} : Q1 Q K .ret tm H = Q .ret tm H := rfl
theorem Q1_exit {K : Tm → AH → Prop} {i : Nat} : Q1 Q K (.exit i) tm H = Q (.exit i) tm H := rfl
theorem QB_normal {id : Nat} : QB id Q .normal tm H = Q .normal tm H := rfl
theorem QB_ret {id : Nat} : QB id Q .ret tm H = Q .ret tm H := rfl
theorem QB_exit {id i : Nat} : QB id Q (.exit i) tm H = if i = id then Q .normal tm H else Q (.exit i) tm H := rfl
theorem AEnd_normal {rs : List ResultVar} {R : AV → AH → Prop} : AEnd T rs R .normal tm H = match ares T tm H rs with | some vs => R (aresult vs) H | none => False := rfl
theorem AEnd_ret {rs : List ResultVar} {R : AV → AH → Prop} : AEnd T rs R .ret tm H = match ares T tm H rs with | some vs => R (aresult vs) H | none => False := rfl

-- simp looks into none of these but where it must
theorem AW_congr {c : Code} {tm' : Tm} {H' : AH} (h : tm = tm') (k : H = H') : AW P T prims n c tm H Q = AW P T prims n c tm' H' Q := by rw [h, k]
theorem VOps_congr {ops : Array Oper} {dr : Dr} {tot : List Nat} {i j : Nat} {l : List Oper} {K : Tm → AH → Prop} {tm' : Tm} {H' : AH} (hi : i = j) (h : tm = tm') (k : H = H') : VOps P T prims n ops dr tot i l tm H K = VOps P T prims n ops dr tot j l tm' H' K := by rw [hi, h, k]
theorem Q1_congr {K : Tm → AH → Prop} {e : AExit} {tm' : Tm} {H' : AH} (h : tm = tm') (k : H = H') : Q1 Q K e tm H = Q1 Q K e tm' H' := by rw [h, k]
theorem QB_congr {id : Nat} {e : AExit} {tm' : Tm} {H' : AH} (h : tm = tm') (k : H = H') : QB id Q e tm H = QB id Q e tm' H' := by rw [h, k]
theorem AEnd_congr {rs : List ResultVar} {R : AV → AH → Prop} {e : AExit} {tm' : Tm} {H' : AH} (h : tm = tm') (k : H = H') : AEnd T rs R e tm H = AEnd T rs R e tm' H' := by rw [h, k]
theorem Ev_congr {f : FuncId} {args args' : List AV} {R : AV → AH → Prop} {H' : AH} (h : args = args') (k : H = H') : Ev P T prims f args H R = Ev P T prims f args' H' R := by rw [h, k]
theorem ABr_congr {v v' : AV} {x y : Prop} (h : v = v') : ABr v x y = ABr v' x y := by rw [h]
end

-- one operation after the other
section
variable {P : Program} {T : TT} {prims : PrimT} {n : Nat} {tm : Tm} {H : AH} {ops : Array Oper} {dr : Dr} {tot : List Nat} {i : Nat} {rest : List Oper} {K : Tm → AH → Prop}

theorem VOps_nil : VOps P T prims n ops dr tot i [] tm H K ↔ K tm H := Iff.rfl

/-- What an operation leaves. -/
def AStep (P : Program) (T : TT) (prims : PrimT) (n : Nat) (ops : Array Oper) (dr : Dr) (tot : List Nat) (i : Nat) (d : Option Tmp) (op : Op) (rest : List Oper) (tm : Tm) (H : AH) (K : Tm → AH → Prop) (r : Option (AV × AH)) : Prop :=
  match r with
  | some (v, H1) => DD T dr (tot.contains i) i tm op H v H1 ∧ VOps P T prims n ops dr tot (i + 1) rest (tm.put d v) H1 K
  | none => False

/-- An operation, called for. -/
def AOp1 (P : Program) (T : TT) (prims : PrimT) (n : Nat) (ops : Array Oper) (dr : Dr) (tot : List Nat) (i : Nat) (d : Option Tmp) (op : Op) (rest : List Oper) (tm : Tm) (H : AH) (K : Tm → AH → Prop) : Prop :=
  match op with
  | .call c => match c.callee with
    | .value f => match ev tm f with
      | .fn g cap => Ev P T prims g (c.args.toList.map (ev tm) ++ cap) H fun v H1 => DD T dr (tot.contains i) i tm op H v H1 ∧ VOps P T prims n ops dr tot (i + 1) rest (tm.put d v) H1 K
      | _ => False
    | _ => AStep P T prims n ops dr tot i d op rest tm H K (aop T tm H op)
  | _ => AStep P T prims n ops dr tot i d op rest tm H K (aop T tm H op)

/-- A guarded operation. -/
def AGuard (g : Option Bool) (x y : Prop) : Prop := match g with | none => False | some true => x | some false => y

theorem VOps_cons {o : Oper} : VOps P T prims n ops dr tot i (o :: rest) tm H K ↔ AGuard (awanted ops tm o) (dstOk n o.dst = true ∧ AOp1 P T prims n ops dr tot i o.dst o.op rest tm H K)
    (dstOk n o.dst = true ∧ VOps P T prims n ops dr tot (i + 1) rest (tm.put o.dst (.tup [])) H K) := by
  rw [VOps]
  unfold AGuard
  split
  · rename_i h; rw [h]
  · rename_i h; rw [h]
  · rename_i h
    rw [h]
    obtain ⟨d, op, ty, pos, af, gd⟩ := o
    cases op <;> rfl

theorem VOps_plain {d : Option Tmp} {op : Op} {t : TypeId} {p : String} {a : Array Edge} : VOps P T prims n ops dr tot i ({ dst := d, op := op, type := t, pos := p, after := a, guard := none } :: rest) tm H K ↔
    (dstOk n d = true ∧ AOp1 P T prims n ops dr tot i d op rest tm H K) := by rw [VOps_cons]; rfl
/-- The value of a guard. -/
def agval (want : Bool) (v : AV) : Option Bool := match v with | .bool b => some (b == want) | .tup [] => some false | _ => none
theorem agval_skip (want : Bool) : agval want (.tup []) = some false := rfl
theorem agval_bool (want b : Bool) : agval want (.bool b) = some (b == want) := rfl
/-- The slot of a guard. -/
def gd : List Oper → Nat → Option Tmp
  | [], _ => none
  | o :: _, 0 => o.dst
  | _ :: l, j + 1 => gd l j
theorem gd_congr {l : List Oper} {j j' : Nat} (h : j = j') : gd l j = gd l j' := by rw [h]
theorem gd_zero {o : Oper} {l : List Oper} : gd (o :: l) 0 = o.dst := rfl
theorem gd_succ {o : Oper} {l : List Oper} {j : Nat} : gd (o :: l) (j + 1) = gd l j := rfl
theorem gd_eq : ∀ (l : List Oper) (j : Nat), (l[j]?).bind (·.dst) = gd l j
  | [], j => by simp [gd]
  | o :: l, 0 => by simp [gd]
  | o :: l, j + 1 => by simpa [gd] using gd_eq l j
def agv (want : Bool) (q : Option Tmp) (tm : Tm) : Option Bool := match q with | some q => agval want (tm q) | none => none
theorem agv_some {want : Bool} {q : Tmp} {tm : Tm} : agv want (some q) tm = agval want (tm q) := rfl
theorem VOps_guard {l : List Oper} {d : Option Tmp} {op : Op} {t : TypeId} {p : String} {a : Array Edge} {j : Nat} {want : Bool} :
    VOps P T prims n l.toArray dr tot i ({ dst := d, op := op, type := t, pos := p, after := a, guard := some (j, want) } :: rest) tm H K ↔
    AGuard (agv want (gd l j) tm) (dstOk n d = true ∧ AOp1 P T prims n l.toArray dr tot i d op rest tm H K) (dstOk n d = true ∧ VOps P T prims n l.toArray dr tot (i + 1) rest (tm.put d (.tup [])) H K) := by
  rw [VOps_cons]
  simp only [awanted, List.getElem?_toArray, gd_eq]
  cases gd l j <;> rfl
theorem AGuard_true {x y : Prop} : AGuard (some true) x y ↔ x := Iff.rfl
theorem AGuard_false {x y : Prop} : AGuard (some false) x y ↔ y := Iff.rfl
theorem AGuard_congr {g g' : Option Bool} {x y : Prop} (h : g = g') : AGuard g x y = AGuard g' x y := by rw [h]
theorem AOp1_congr {d : Option Tmp} {op : Op} {tm' : Tm} {H' : AH} (h : tm = tm') (k : H = H') : AOp1 P T prims n ops dr tot i d op rest tm H K = AOp1 P T prims n ops dr tot i d op rest tm' H' K := by rw [h, k]
theorem AStep_congr {d : Option Tmp} {op : Op} {r r' : Option (AV × AH)} (h : r = r') : AStep P T prims n ops dr tot i d op rest tm H K r = AStep P T prims n ops dr tot i d op rest tm H K r' := by rw [h]
theorem AStep_some {d : Option Tmp} {op : Op} {v : AV} {H1 : AH} : AStep P T prims n ops .no tot i d op rest tm H K (some (v, H1)) ↔ VOps P T prims n ops .no tot (i + 1) rest (tm.put d v) H1 K :=
  ⟨fun h => h.2, fun h => ⟨trivial, h⟩⟩
/-- Whether an operation is one of the independent ones. -/
def Dr.isInd : Dr → Nat → Bool
  | .no, _ => false
  | .yes _ ind, i => ind.contains i
theorem DD.quiet {tt : Bool} {op : Op} {v : AV} {H1 : AH} (hi : dr.isInd i = false) (q : Quiet H H1) : DD T dr tt i tm op H v H1 := by
  cases dr with
  | no => trivial
  | yes W ind => exact ⟨.inl q, fun h => by have e : ind.contains i = false := hi; rw [e] at h; cases h⟩
theorem DD.writes {W : Nat → Prop} {ind : List Nat} {tt : Bool} {op : Op} {v : AV} {H1 : AH} (hi : ind.contains i = false) (ht : tt = true) (q : QX W H H1) : DD T (.yes W ind) tt i tm op H v H1 :=
  ⟨.inr ⟨ht, q⟩, fun h => by rw [hi] at h; cases h⟩
theorem DD.alone {W : Nat → Prop} {ind : List Nat} {tt : Bool} {op : Op} {v : AV} {H1 : AH} (q : Quiet H H1) (hn : ∀ b, H.size ≤ b → b < H1.size → ¬ W b) (h : aop T tm (H.drop W) op = some (v, H1.drop W)) : DD T (.yes W ind) tt i tm op H v H1 :=
  ⟨.inl q, fun _ => ⟨q, hn, h⟩⟩
theorem QX_all (H H1 : AH) : QX (fun _ => True) H H1 := fun _ _ h => absurd trivial h
theorem AStep_draw {d : Option Tmp} {op : Op} {W : Nat → Prop} {ind : List Nat} {v : AV} (hi : ind.contains i = false) : AStep P T prims n ops (.yes W ind) tot i d op rest tm H K (some (v, H)) ↔ VOps P T prims n ops (.yes W ind) tot (i + 1) rest (tm.put d v) H K :=
  ⟨fun h => h.2, fun h => ⟨DD.quiet hi fun _ _ => rfl, h⟩⟩
theorem AStep_push {d : Option Tmp} {op : Op} {W : Nat → Prop} {ind : List Nat} {v : AV} {x : ABlk} (hi : ind.contains i = false) : AStep P T prims n ops (.yes W ind) tot i d op rest tm H K (some (v, H.push x)) ↔ VOps P T prims n ops (.yes W ind) tot (i + 1) rest (tm.put d v) (H.push x) K :=
  ⟨fun h => h.2, fun h => ⟨DD.quiet hi (Quiet.push H x), h⟩⟩
theorem AStep_tot {d : Option Tmp} {op : Op} {W : Nat → Prop} {ind : List Nat} {v : AV} {H1 : AH} (hi : ind.contains i = false) (ht : tot.contains i = true) (hq : QX W H H1) : AStep P T prims n ops (.yes W ind) tot i d op rest tm H K (some (v, H1)) ↔ VOps P T prims n ops (.yes W ind) tot (i + 1) rest (tm.put d v) H1 K :=
  ⟨fun h => h.2, fun h => ⟨DD.writes hi ht hq, h⟩⟩

theorem AOp1_call {d : Option Tmp} {f : FuncId} {args : Array Operand} {ts : Array TypeId} : AOp1 P T prims n ops dr tot i d (.call { callee := .value (.func f), args := args, argTypes := ts }) rest tm H K ↔
    Ev P T prims f (args.toList.map (ev tm)) H fun v H1 => DD T dr (tot.contains i) i tm (.call { callee := .value (.func f), args := args, argTypes := ts }) H v H1 ∧ VOps P T prims n ops dr tot (i + 1) rest (tm.put d v) H1 K := by
  unfold AOp1
  simp only [ev, List.append_nil]
/-- A call of a function that a slot holds. -/
theorem AOp1_fn {d : Option Tmp} {x : Operand} {g : FuncId} {cap : List AV} {args : Array Operand} {ts : Array TypeId} (hx : ev tm x = .fn g cap) : AOp1 P T prims n ops dr tot i d (.call { callee := .value x, args := args, argTypes := ts }) rest tm H K ↔
    Ev P T prims g (args.toList.map (ev tm) ++ cap) H fun v H1 => DD T dr (tot.contains i) i tm (.call { callee := .value x, args := args, argTypes := ts }) H v H1 ∧ VOps P T prims n ops dr tot (i + 1) rest (tm.put d v) H1 K := by
  unfold AOp1
  simp only [hx]
end


/- Code with what is to follow as a list: nothing in it is looked into. -/
inductive KI where
  | code (c : Code)
  | blk (id : Nat)
  | body (K : Tm → AH → Prop)

section
variable (P : Program) (T : TT) (prims : PrimT) (n : Nat)
def kq : List KI → (AExit → Tm → AH → Prop) → AExit → Tm → AH → Prop
  | [], Q => Q
  | .code c :: ks, Q => Q1 (kq ks Q) fun tm H => AW P T prims n c tm H (kq ks Q)
  | .blk id :: ks, Q => QB id (kq ks Q)
  | .body K :: ks, Q => Q1 (kq ks Q) K
def AK (c : Code) (ks : List KI) (tm : Tm) (H : AH) (Q : AExit → Tm → AH → Prop) : Prop := AW P T prims n c tm H (kq P T prims n ks Q)
def AX (e : AExit) (ks : List KI) (tm : Tm) (H : AH) (Q : AExit → Tm → AH → Prop) : Prop := kq P T prims n ks Q e tm H
def VK (ops : Array Oper) (dr : Dr) (tot : List Nat) (i : Nat) (l : List Oper) (ks : List KI) (tm : Tm) (H : AH) (Q : AExit → Tm → AH → Prop) : Prop :=
  VOps P T prims n ops dr tot i l tm H fun tm H => AX P T prims n .normal ks tm H Q
def ASK (ops : Array Oper) (dr : Dr) (tot : List Nat) (i : Nat) (d : Option Tmp) (op : Op) (rest : List Oper) (ks : List KI) (tm : Tm) (H : AH) (Q : AExit → Tm → AH → Prop) (r : Option (AV × AH)) : Prop :=
  AStep P T prims n ops dr tot i d op rest tm H (fun tm H => AX P T prims n .normal ks tm H Q) r
def AOK (ops : Array Oper) (dr : Dr) (tot : List Nat) (i : Nat) (d : Option Tmp) (op : Op) (rest : List Oper) (ks : List KI) (tm : Tm) (H : AH) (Q : AExit → Tm → AH → Prop) : Prop :=
  AOp1 P T prims n ops dr tot i d op rest tm H fun tm H => AX P T prims n .normal ks tm H Q
def ABK (v : AV) (x y : Code) (ks : List KI) (tm : Tm) (H : AH) (Q : AExit → Tm → AH → Prop) : Prop := ABr v (AK P T prims n x ks tm H Q) (AK P T prims n y ks tm H Q)
def AGK (g : Option Bool) (ops : Array Oper) (dr : Dr) (tot : List Nat) (i : Nat) (d : Option Tmp) (op : Op) (rest : List Oper) (ks : List KI) (tm : Tm) (H : AH) (Q : AExit → Tm → AH → Prop) : Prop :=
  AGuard g (AOK P T prims n ops dr tot i d op rest ks tm H Q) (VK P T prims n ops dr tot (i + 1) rest ks (tm.put d (.tup [])) H Q)
end

section
variable {P : Program} {T : TT} {prims : PrimT} {n : Nat} {tm : Tm} {H : AH} {Q : AExit → Tm → AH → Prop} {ks : List KI}

theorem Ev.enterK {f : FuncId} {args : List AV} {R : AV → AH → Prop} {fn : Func} {c : Code} (hp : prims f = none) (hf : P.funcs[f]? = some fn) (hb : fn.body = some c) (hn : (fn.name == "runtime.NumGoroutine") = false)
    (hl : args.length ≤ fn.ntmps) (h : AK P T prims fn.ntmps c [] (tm0 args) H (AEnd T fn.results.toList R)) : Ev P T prims f args H R := Ev.enter hp hf hb hn hl h

@[go_sem ↓] theorem AK_seq {x y : Code} : AK P T prims n (.seq x y) ks tm H Q ↔ AK P T prims n x (.code y :: ks) tm H Q := AW_seq
@[go_sem ↓] theorem AK_block {id : Nat} {c : Code} : AK P T prims n (.block id c) ks tm H Q ↔ AK P T prims n c (.blk id :: ks) tm H Q := AW_block
@[go_sem ↓] theorem AK_region {id : Nat} {l : List Oper} : AK P T prims n (.region id l.toArray false) ks tm H Q ↔ VK P T prims n l.toArray .no [] 0 l ks tm H Q := AW_region
@[go_sem ↓] theorem AK_skip : AK P T prims n .skip ks tm H Q ↔ AX P T prims n .normal ks tm H Q := AW_skip
@[go_sem ↓] theorem AK_exit {id : Nat} : AK P T prims n (.exit id) ks tm H Q ↔ AX P T prims n (.exit id) ks tm H Q := AW_exit
@[go_sem ↓] theorem AK_ret : AK P T prims n .ret ks tm H Q ↔ AX P T prims n .ret ks tm H Q := AW_ret
@[go_sem ↓] theorem AK_cond {c : Operand} {x y : Code} : AK P T prims n (.cond c x y) ks tm H Q ↔ ABK P T prims n (ev tm c) x y ks tm H Q := AW_cond
@[go_sem] theorem ABK_true {x y : Code} : ABK P T prims n (.bool true) x y ks tm H Q ↔ AK P T prims n x ks tm H Q := ABr_true
@[go_sem] theorem ABK_false {x y : Code} : ABK P T prims n (.bool false) x y ks tm H Q ↔ AK P T prims n y ks tm H Q := ABr_false
@[go_sem] theorem ABK_not {b : Bool} {x y : Code} : ABK P T prims n (.bool !b) x y ks tm H Q ↔ ABK P T prims n (.bool b) y x ks tm H Q := by cases b <;> simp [ABK, ABr_true, ABr_false]
theorem ABK_mk {b : Bool} {x y : Code} (h1 : b = true → AK P T prims n x ks tm H Q) (h2 : b = false → AK P T prims n y ks tm H Q) : ABK P T prims n (.bool b) x y ks tm H Q := ABr_mk h1 h2
theorem ABK_dec {p : Prop} [Decidable p] {x y : Code} (h1 : p → AK P T prims n x ks tm H Q) (h2 : ¬p → AK P T prims n y ks tm H Q) : ABK P T prims n (.bool (decide p)) x y ks tm H Q :=
  ABr_mk (fun h => h1 (of_decide_eq_true h)) fun h => h2 (of_decide_eq_false h)
@[go_sem ↓] theorem AX_ncode {c : Code} : AX P T prims n .normal (.code c :: ks) tm H Q ↔ AK P T prims n c ks tm H Q := Iff.rfl
@[go_sem ↓] theorem AX_rcode {c : Code} : AX P T prims n .ret (.code c :: ks) tm H Q ↔ AX P T prims n .ret ks tm H Q := Iff.rfl
@[go_sem ↓] theorem AX_ecode {c : Code} {i : Nat} : AX P T prims n (.exit i) (.code c :: ks) tm H Q ↔ AX P T prims n (.exit i) ks tm H Q := Iff.rfl
@[go_sem ↓] theorem AX_nblk {id : Nat} : AX P T prims n .normal (.blk id :: ks) tm H Q ↔ AX P T prims n .normal ks tm H Q := Iff.rfl
@[go_sem ↓] theorem AX_rblk {id : Nat} : AX P T prims n .ret (.blk id :: ks) tm H Q ↔ AX P T prims n .ret ks tm H Q := Iff.rfl
@[go_sem ↓] theorem AX_eblk {id : Nat} : AX P T prims n (.exit id) (.blk id :: ks) tm H Q ↔ AX P T prims n .normal ks tm H Q := by simp only [AX, kq, QB_exit, if_pos]
@[go_sem ↓] theorem AX_eblk' {id i : Nat} (h : i ≠ id) : AX P T prims n (.exit i) (.blk id :: ks) tm H Q ↔ AX P T prims n (.exit i) ks tm H Q := by simp only [AX, kq, QB_exit, if_neg h]
@[go_sem ↓] theorem AX_nbody {K : Tm → AH → Prop} : AX P T prims n .normal (.body K :: ks) tm H Q ↔ K tm H := Iff.rfl
@[go_sem ↓] theorem AX_rbody {K : Tm → AH → Prop} : AX P T prims n .ret (.body K :: ks) tm H Q ↔ AX P T prims n .ret ks tm H Q := Iff.rfl
@[go_sem ↓] theorem AX_ebody {K : Tm → AH → Prop} {i : Nat} : AX P T prims n (.exit i) (.body K :: ks) tm H Q ↔ AX P T prims n (.exit i) ks tm H Q := Iff.rfl
@[go_sem ↓] theorem AX_nnil {rs : List ResultVar} {R : AV → AH → Prop} : AX P T prims n .normal [] tm H (AEnd T rs R) ↔ match ares T tm H rs with | some vs => R (aresult vs) H | none => False := Iff.rfl
@[go_sem ↓] theorem AX_rnil {rs : List ResultVar} {R : AV → AH → Prop} : AX P T prims n .ret [] tm H (AEnd T rs R) ↔ match ares T tm H rs with | some vs => R (aresult vs) H | none => False := Iff.rfl

variable {ops : Array Oper} {dr : Dr} {tot : List Nat} {i : Nat} {rest : List Oper}
@[go_sem ↓] theorem VK_nil : VK P T prims n ops dr tot i [] ks tm H Q ↔ AX P T prims n .normal ks tm H Q := Iff.rfl
@[go_sem ↓] theorem VK_plain {d : Option Tmp} {op : Op} {t : TypeId} {p : String} {a : Array Edge} : VK P T prims n ops dr tot i ({ dst := d, op := op, type := t, pos := p, after := a, guard := none } :: rest) ks tm H Q ↔
    (dstOk n d = true ∧ AOK P T prims n ops dr tot i d op rest ks tm H Q) := VOps_plain
@[go_sem ↓] theorem VK_guard {l : List Oper} {d : Option Tmp} {op : Op} {t : TypeId} {p : String} {a : Array Edge} {j : Nat} {want : Bool} :
    VK P T prims n l.toArray dr tot i ({ dst := d, op := op, type := t, pos := p, after := a, guard := some (j, want) } :: rest) ks tm H Q ↔
    (dstOk n d = true ∧ AGK P T prims n (agv want (gd l j) tm) l.toArray dr tot i d op rest ks tm H Q) := by
  unfold VK
  rw [VOps_guard]
  unfold AGK AOK VK AGuard
  split <;> simp
@[go_sem] theorem AGK_true {d : Option Tmp} {op : Op} : AGK P T prims n (some true) ops dr tot i d op rest ks tm H Q ↔ AOK P T prims n ops dr tot i d op rest ks tm H Q := Iff.rfl
@[go_sem] theorem AGK_false {d : Option Tmp} {op : Op} : AGK P T prims n (some false) ops dr tot i d op rest ks tm H Q ↔ VK P T prims n ops dr tot (i + 1) rest ks (tm.put d (.tup [])) H Q := Iff.rfl
theorem AGK_mk {b : Bool} {d : Option Tmp} {op : Op} (h1 : b = true → AOK P T prims n ops dr tot i d op rest ks tm H Q) (h2 : b = false → VK P T prims n ops dr tot (i + 1) rest ks (tm.put d (.tup [])) H Q) :
    AGK P T prims n (some b) ops dr tot i d op rest ks tm H Q := by cases b; exact h2 rfl; exact h1 rfl
theorem AGK_not {b : Bool} {d : Option Tmp} {op : Op} (h1 : b = false → AOK P T prims n ops dr tot i d op rest ks tm H Q) (h2 : b = true → VK P T prims n ops dr tot (i + 1) rest ks (tm.put d (.tup [])) H Q) :
    AGK P T prims n (some !b) ops dr tot i d op rest ks tm H Q := by cases b; exact h1 rfl; exact h2 rfl
theorem AGK_dec {p : Prop} [Decidable p] {d : Option Tmp} {op : Op} (h1 : p → AOK P T prims n ops dr tot i d op rest ks tm H Q) (h2 : ¬p → VK P T prims n ops dr tot (i + 1) rest ks (tm.put d (.tup [])) H Q) :
    AGK P T prims n (some (decide p)) ops dr tot i d op rest ks tm H Q := AGK_mk (fun h => h1 (of_decide_eq_true h)) fun h => h2 (of_decide_eq_false h)
theorem AGK_decn {p : Prop} [Decidable p] {d : Option Tmp} {op : Op} (h1 : ¬p → AOK P T prims n ops dr tot i d op rest ks tm H Q) (h2 : p → VK P T prims n ops dr tot (i + 1) rest ks (tm.put d (.tup [])) H Q) :
    AGK P T prims n (some !(decide p)) ops dr tot i d op rest ks tm H Q := AGK_not (fun h => h1 (of_decide_eq_false h)) fun h => h2 (of_decide_eq_true h)

attribute [go_sem] agval_skip agval_bool gd_zero gd_succ agv_some
@[go_sem] theorem ASK_some {d : Option Tmp} {op : Op} {v : AV} {H1 : AH} : ASK P T prims n ops .no tot i d op rest ks tm H Q (some (v, H1)) ↔ VK P T prims n ops .no tot (i + 1) rest ks (tm.put d v) H1 Q := AStep_some
@[go_sem] theorem ASK_draw {d : Option Tmp} {op : Op} {W : Nat → Prop} {ind : List Nat} {v : AV} (hi : ind.contains i = false) : ASK P T prims n ops (.yes W ind) tot i d op rest ks tm H Q (some (v, H)) ↔ VK P T prims n ops (.yes W ind) tot (i + 1) rest ks (tm.put d v) H Q := AStep_draw hi
@[go_sem] theorem ASK_push {d : Option Tmp} {op : Op} {W : Nat → Prop} {ind : List Nat} {v : AV} {x : ABlk} (hi : ind.contains i = false) : ASK P T prims n ops (.yes W ind) tot i d op rest ks tm H Q (some (v, H.push x)) ↔ VK P T prims n ops (.yes W ind) tot (i + 1) rest ks (tm.put d v) (H.push x) Q := AStep_push hi
@[go_sem low] theorem ASK_tot {d : Option Tmp} {op : Op} {ind : List Nat} {v : AV} {H1 : AH} (hi : ind.contains i = false) (ht : tot.contains i = true) : ASK P T prims n ops (.yes (fun _ => True) ind) tot i d op rest ks tm H Q (some (v, H1)) ↔ VK P T prims n ops (.yes (fun _ => True) ind) tot (i + 1) rest ks (tm.put d v) H1 Q := AStep_tot hi ht (QX_all _ _)
theorem ASK_w {d : Option Tmp} {op : Op} {W : Nat → Prop} {ind : List Nat} {v : AV} {H1 : AH} (hi : ind.contains i = false) (ht : tot.contains i = true) (hq : QX W H H1) : ASK P T prims n ops (.yes W ind) tot i d op rest ks tm H Q (some (v, H1)) ↔ VK P T prims n ops (.yes W ind) tot (i + 1) rest ks (tm.put d v) H1 Q := AStep_tot hi ht hq
/-- An independent operation. -/
theorem ASK_ind {d : Option Tmp} {op : Op} {W : Nat → Prop} {ind : List Nat} {v : AV} {H1 : AH} (q : Quiet H H1) (hn : ∀ b, H.size ≤ b → b < H1.size → ¬ W b) (h : aop T tm (H.drop W) op = some (v, H1.drop W)) (hk : VK P T prims n ops (.yes W ind) tot (i + 1) rest ks (tm.put d v) H1 Q) :
    ASK P T prims n ops (.yes W ind) tot i d op rest ks tm H Q (some (v, H1)) := ⟨DD.alone q hn h, hk⟩
@[congr] theorem ASK_congr {d : Option Tmp} {op : Op} {r r' : Option (AV × AH)} (h : r = r') : ASK P T prims n ops dr tot i d op rest ks tm H Q r = ASK P T prims n ops dr tot i d op rest ks tm H Q r' := by rw [h]
@[congr] theorem ABK_congr {v v' : AV} {x y : Code} (h : v = v') : ABK P T prims n v x y ks tm H Q = ABK P T prims n v' x y ks tm H Q := by rw [h]
@[congr] theorem AGK_congr {g g' : Option Bool} {d : Option Tmp} {op : Op} (h : g = g') : AGK P T prims n g ops dr tot i d op rest ks tm H Q = AGK P T prims n g' ops dr tot i d op rest ks tm H Q := by rw [h]

theorem AK.draw {id : Nat} {l : List Oper} (W : Nat → Prop) (ind tl : List Nat) (hok : drawOK l.toArray ind tl = true) (h : VK P T prims n l.toArray (.yes W ind) tl 0 l ks tm H Q) : AK P T prims n (.region id l.toArray true) ks tm H Q := AW.draw W ind tl hok (by rw [List.toList_toArray]; exact h)

/-- The operations that stand in order with all others. -/
def toks (l : List Oper) (ind : List Nat) : List Nat := (List.range l.length).filter (totOK l.toArray ind)
theorem AK.drawW {id : Nat} {l : List Oper} (W : Nat → Prop) (ind : List Nat) (hok : regOK l.toArray = true) (h : VK P T prims n l.toArray (.yes W ind) (toks l ind) 0 l ks tm H Q) : AK P T prims n (.region id l.toArray true) ks tm H Q := by
  refine AK.draw W ind (toks l ind) ?_ h
  simp only [drawOK, hok, Bool.true_and, List.all_eq_true, toks, List.mem_filter]
  exact fun i hi => hi.2
theorem AK.drawT {id : Nat} {l : List Oper} (hok : regOK l.toArray = true) (h : VK P T prims n l.toArray Dr.all (toks l []) 0 l ks tm H Q) : AK P T prims n (.region id l.toArray true) ks tm H Q := AK.drawW _ [] hok h

/-- What a call gives that turns nothing that is old. -/
def Is (X : AV) (H : AH) : AV → AH → Prop := fun v H' => v = X ∧ Ext H H'
theorem Is.mk {X : AV} {H H' : AH} {v : AV} (h : v = X) (x : Ext H H') : Is X H v H' := ⟨h, x⟩
/-- The same of a new thing. -/
def Gives (H : AH) (G : AV → AH → Prop) : AV → AH → Prop := fun v H' => Ext H H' ∧ G v H'

theorem AOK_is {d : Option Tmp} {f : FuncId} {args : Array Operand} {ts : Array TypeId} {X : AV} (h : Ev P T prims f (args.toList.map (ev tm)) H (Is X H))
    (hk : ∀ H1, Ext H H1 → VK P T prims n ops dr tot (i + 1) rest ks (tm.put d X) H1 Q) (hi : dr.isInd i = false := by rfl) :
    AOK P T prims n ops dr tot i d (.call { callee := .value (.func f), args := args, argTypes := ts }) rest ks tm H Q := by
  refine AOp1_call.2 (h.mono ?_)
  rintro v H1 ⟨rfl, x⟩
  exact ⟨DD.quiet hi x.quiet, hk H1 x⟩
theorem AOK_gives {d : Option Tmp} {f : FuncId} {args : Array Operand} {ts : Array TypeId} {G : AV → AH → Prop} (h : Ev P T prims f (args.toList.map (ev tm)) H (Gives H G))
    (hk : ∀ v H1, Ext H H1 → G v H1 → VK P T prims n ops dr tot (i + 1) rest ks (tm.put d v) H1 Q) (hi : dr.isInd i = false := by rfl) :
    AOK P T prims n ops dr tot i d (.call { callee := .value (.func f), args := args, argTypes := ts }) rest ks tm H Q := by
  refine AOp1_call.2 (h.mono ?_)
  rintro v H1 ⟨x, g⟩
  exact ⟨DD.quiet hi x.quiet, hk v H1 x g⟩
/-- The same of a function that a slot holds. -/
theorem AOK_fnis {d : Option Tmp} {y : Operand} {g : FuncId} {cap : List AV} {args : Array Operand} {ts : Array TypeId} {X : AV} (hy : ev tm y = .fn g cap) (h : Ev P T prims g (args.toList.map (ev tm) ++ cap) H (Is X H))
    (hk : ∀ H1, Ext H H1 → VK P T prims n ops dr tot (i + 1) rest ks (tm.put d X) H1 Q) (hi : dr.isInd i = false := by rfl) :
    AOK P T prims n ops dr tot i d (.call { callee := .value y, args := args, argTypes := ts }) rest ks tm H Q := by
  refine (AOp1_fn hy).2 (h.mono ?_)
  rintro v H1 ⟨rfl, x⟩
  exact ⟨DD.quiet hi x.quiet, hk H1 x⟩
theorem AOK_fncalls {d : Option Tmp} {y : Operand} {g : FuncId} {cap : List AV} {args : Array Operand} {ts : Array TypeId} {R : AV → AH → Prop} (hy : ev tm y = .fn g cap) (h : Ev P T prims g (args.toList.map (ev tm) ++ cap) H R)
    (hk : ∀ v H1, R v H1 → VK P T prims n ops .no tot (i + 1) rest ks (tm.put d v) H1 Q) :
    AOK P T prims n ops .no tot i d (.call { callee := .value y, args := args, argTypes := ts }) rest ks tm H Q :=
  (AOp1_fn hy).2 (h.mono fun v H1 r => ⟨trivial, hk v H1 r⟩)
/-- A call that turns what is old: in a region without a draw. -/
theorem AOK_calls {d : Option Tmp} {f : FuncId} {args : Array Operand} {ts : Array TypeId} {R : AV → AH → Prop} (h : Ev P T prims f (args.toList.map (ev tm)) H R)
    (hk : ∀ v H1, R v H1 → VK P T prims n ops .no tot (i + 1) rest ks (tm.put d v) H1 Q) :
    AOK P T prims n ops .no tot i d (.call { callee := .value (.func f), args := args, argTypes := ts }) rest ks tm H Q :=
  AOp1_call.2 (h.mono fun v H1 r => ⟨trivial, hk v H1 r⟩)
/-- And where it stands in order with all else. -/
theorem AOK_callt {d : Option Tmp} {f : FuncId} {args : Array Operand} {ts : Array TypeId} {R : AV → AH → Prop} (ht : tot.contains i = true) (h : Ev P T prims f (args.toList.map (ev tm)) H R)
    (hk : ∀ v H1, R v H1 → VK P T prims n ops Dr.all tot (i + 1) rest ks (tm.put d v) H1 Q) :
    AOK P T prims n ops Dr.all tot i d (.call { callee := .value (.func f), args := args, argTypes := ts }) rest ks tm H Q :=
  AOp1_call.2 (h.mono fun v H1 r => ⟨DD.writes rfl ht (QX_all _ _), hk v H1 r⟩)
/-- And where it turns W alone. -/
theorem AOK_callw {d : Option Tmp} {f : FuncId} {args : Array Operand} {ts : Array TypeId} {W : Nat → Prop} {ind : List Nat} {R : AV → AH → Prop} (ht : tot.contains i = true) (hi : ind.contains i = false) (h : Ev P T prims f (args.toList.map (ev tm)) H R)
    (hk : ∀ v H1, R v H1 → QX W H H1 ∧ VK P T prims n ops (.yes W ind) tot (i + 1) rest ks (tm.put d v) H1 Q) :
    AOK P T prims n ops (.yes W ind) tot i d (.call { callee := .value (.func f), args := args, argTypes := ts }) rest ks tm H Q :=
  AOp1_call.2 (h.mono fun v H1 r => ⟨DD.writes hi ht (hk v H1 r).1, (hk v H1 r).2⟩)
end

end Go.Proofs.Ytopbfmhajbjepaa
