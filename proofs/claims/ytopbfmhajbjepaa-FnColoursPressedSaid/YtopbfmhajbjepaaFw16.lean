/- Each operation, as a walk's simp sees it. -/
import Derived.Test.YtopbfmhajbjepaaFw15
namespace Go.Proofs.Ytopbfmhajbjepaa
open Go
set_option linter.unusedSectionVars false
set_option linter.unusedSimpArgs false
set_option linter.unusedVariables false

/-- The parts of a thing that is built. -/
def evp (tm : Tm) (ps : List (Nat × Operand)) : List (Nat × AV) := ps.map fun p => (p.1, ev tm p.2)
def evl (tm : Tm) (cs : List Operand) : List AV := cs.map (ev tm)
@[go_sem] theorem evp_nil {tm : Tm} : evp tm [] = [] := rfl
@[go_sem] theorem evp_cons {tm : Tm} {i : Nat} {x : Operand} {r : List (Nat × Operand)} : evp tm ((i, x) :: r) = (i, ev tm x) :: evp tm r := rfl
@[go_sem] theorem evl_nil {tm : Tm} : evl tm [] = [] := rfl
@[go_sem] theorem evl_cons {tm : Tm} {x : Operand} {r : List Operand} : evl tm (x :: r) = ev tm x :: evl tm r := rfl
@[go_sem] theorem ev_tmp {tm : Tm} {t : Nat} : ev tm (.tmp t) = tm t := rfl
@[go_sem] theorem ev_const {tm : Tm} {v : Value} : ev tm (.const v) = aconst v := rfl
@[go_sem] theorem ev_func {tm : Tm} {f : FuncId} : ev tm (.func f) = .fn f [] := rfl
section
variable {P : Program} {T : TT} {prims : PrimT} {n : Nat} {tm : Tm} {H : AH} {ops : Array Oper} {dr : Dr} {tot : List Nat} {i : Nat} {rest : List Oper} {Q : AExit → Tm → AH → Prop} {ks : List KI} {d : Option Tmp}

@[go_sem ↓] theorem o_move {x : Operand} : AOK P T prims n ops dr tot i d (.move x) rest ks tm H Q = ASK P T prims n ops dr tot i d (.move x) rest ks tm H Q (some (ev tm x, H)) := rfl
@[go_sem ↓] theorem o_assign {x : Operand} : AOK P T prims n ops dr tot i d (.assign x) rest ks tm H Q = ASK P T prims n ops dr tot i d (.assign x) rest ks tm H Q (some (ev tm x, H)) := rfl
def apick (H : AH) (c a b : AV) : Option (AV × AH) := match c with | .bool t => some (if t then a else b, H) | _ => none
@[go_sem] theorem apick_bool {H : AH} {t : Bool} {a b : AV} : apick H (.bool t) a b = some (if t then a else b, H) := rfl
@[go_sem ↓] theorem o_pick {c a b : Operand} : AOK P T prims n ops dr tot i d (.pick c a b) rest ks tm H Q = ASK P T prims n ops dr tot i d (.pick c a b) rest ks tm H Q (apick H (ev tm c) (ev tm a) (ev tm b)) := rfl
def aalloc (T : TT) (H : AH) (t : TypeId) : Option (AV × AH) := match T t with | some d => some (.ptr H.size 0, H.push (.cells d.size false d.zero)) | none => none
@[go_sem ↓] theorem o_alloc {t : TypeId} : AOK P T prims n ops dr tot i d (.alloc t) rest ks tm H Q = ASK P T prims n ops dr tot i d (.alloc t) rest ks tm H Q (aalloc T H t) := rfl
def abox (H : AH) (v : AV) : Option (AV × AH) := if v.known then some (.ptr H.size 0, H.push (.cells v.cells.length false v.cells)) else none
@[go_sem ↓] theorem o_box {t : TypeId} {x : Operand} : AOK P T prims n ops dr tot i d (.box t x) rest ks tm H Q = ASK P T prims n ops dr tot i d (.box t x) rest ks tm H Q (abox H (ev tm x)) := rfl
def aval (H : AH) (r : Option AV) : Option (AV × AH) := r.map fun v => (v, H)
@[go_sem] theorem aval_some {H : AH} {v : AV} : aval H (some v) = some (v, H) := rfl
@[go_sem ↓] theorem o_build {t : TypeId} {ps : List (Nat × Operand)} : AOK P T prims n ops dr tot i d (.build t ps.toArray) rest ks tm H Q = ASK P T prims n ops dr tot i d (.build t ps.toArray) rest ks tm H Q (aval H (abuild T t (evp tm ps))) := by
  first | (unfold AOK ASK AOp1; simp only [aop, if_true]; rfl) | (unfold AOK ASK AOp1; simp only [aop]; rfl)
@[go_sem ↓] theorem o_buildSlice {t : TypeId} {l : Nat} {ps : List (Nat × Operand)} : AOK P T prims n ops dr tot i d (.buildSlice t l ps.toArray) rest ks tm H Q = ASK P T prims n ops dr tot i d (.buildSlice t l ps.toArray) rest ks tm H Q (abuildSlice T H t l (evp tm ps)) := by
  first | (unfold AOK ASK AOp1; simp only [aop, if_true]; rfl) | (unfold AOK ASK AOp1; simp only [aop]; rfl)
def aload1 (T : TT) (H : AH) (t : TypeId) (a : AV) : Option (AV × AH) := match T t, a with | some d, .ptr b o => (aload d H b o).map fun v => (v, H) | _, _ => none
@[go_sem ↓] theorem o_load {t : TypeId} {a : Operand} : AOK P T prims n ops dr tot i d (.load t a) rest ks tm H Q = ASK P T prims n ops dr tot i d (.load t a) rest ks tm H Q (aload1 T H t (ev tm a)) := rfl
def astore1 (T : TT) (H : AH) (t : TypeId) (a x : AV) : Option (AV × AH) := match T t, a with | some d, .ptr b o => (astore d H b o x).map fun H' => (.undef, H') | _, _ => none
@[go_sem ↓] theorem o_store {t : TypeId} {a x : Operand} : AOK P T prims n ops dr tot i d (.store t a x) rest ks tm H Q = ASK P T prims n ops dr tot i d (.store t a x) rest ks tm H Q (astore1 T H t (ev tm a) (ev tm x)) := rfl
def anil (H : AH) (a : AV) : Option (AV × AH) := match a with | .ptr b o => some (.ptr b o, H) | _ => none
@[go_sem] theorem anil_ptr {H : AH} {b o : Nat} : anil H (.ptr b o) = some (.ptr b o, H) := rfl
@[go_sem ↓] theorem o_nilCheck {x : Operand} : AOK P T prims n ops dr tot i d (.nilCheck x) rest ks tm H Q = ASK P T prims n ops dr tot i d (.nilCheck x) rest ks tm H Q (anil H (ev tm x)) := rfl
@[go_sem ↓] theorem o_binOp {op : BinOp} {t t' : TypeId} {x y : Operand} : AOK P T prims n ops dr tot i d (.binOp op t x y t') rest ks tm H Q = ASK P T prims n ops dr tot i d (.binOp op t x y t') rest ks tm H Q (aval H (abin T op t (ev tm x) (ev tm y))) := rfl
@[go_sem ↓] theorem o_unOp {op : UnOp} {t : TypeId} {x : Operand} : AOK P T prims n ops dr tot i d (.unOp op t x) rest ks tm H Q = ASK P T prims n ops dr tot i d (.unOp op t x) rest ks tm H Q (aval H (aun op (ev tm x))) := rfl
@[go_sem ↓] theorem o_convert {s t : TypeId} {x : Operand} : AOK P T prims n ops dr tot i d (.convert s t x) rest ks tm H Q = ASK P T prims n ops dr tot i d (.convert s t x) rest ks tm H Q (aval H (aconv T H s t (ev tm x))) := rfl
@[go_sem ↓] theorem o_makeFunc {f : FuncId} {cs : List Operand} : AOK P T prims n ops dr tot i d (.makeFunc (.func f) #[] cs.toArray) rest ks tm H Q = ASK P T prims n ops dr tot i d (.makeFunc (.func f) #[] cs.toArray) rest ks tm H Q (some (.fn f (evl tm cs), H)) := by
  first | (unfold AOK ASK AOp1; simp only [aop, if_true]; rfl) | (unfold AOK ASK AOp1; simp only [aop]; rfl)
@[go_sem ↓] theorem o_makeSlice {t : TypeId} {l c : Operand} : AOK P T prims n ops dr tot i d (.makeSlice t l c) rest ks tm H Q = ASK P T prims n ops dr tot i d (.makeSlice t l c) rest ks tm H Q (amakeSlice T H t (ev tm l) (ev tm c)) := rfl
@[go_sem ↓] theorem o_slice {t : TypeId} {x : Operand} {lo hi : Option Operand} : AOK P T prims n ops dr tot i d (.slice t x lo hi none) rest ks tm H Q = ASK P T prims n ops dr tot i d (.slice t x lo hi none) rest ks tm H Q (aval H (aslice T H t (ev tm x) (lo.map (ev tm)) (hi.map (ev tm)))) := rfl
@[go_sem ↓] theorem o_fieldAddr {t : TypeId} {x : Operand} {f : Nat} : AOK P T prims n ops dr tot i d (.fieldAddr t x f) rest ks tm H Q = ASK P T prims n ops dr tot i d (.fieldAddr t x f) rest ks tm H Q (aval H (afieldAddr T t (ev tm x) f)) := rfl
@[go_sem ↓] theorem o_field {t : TypeId} {x : Operand} {f : Nat} : AOK P T prims n ops dr tot i d (.field t x f) rest ks tm H Q = ASK P T prims n ops dr tot i d (.field t x f) rest ks tm H Q (aval H (afield T t (ev tm x) f)) := rfl
@[go_sem ↓] theorem o_indexAddr {t : TypeId} {x y : Operand} : AOK P T prims n ops dr tot i d (.indexAddr t x y) rest ks tm H Q = ASK P T prims n ops dr tot i d (.indexAddr t x y) rest ks tm H Q (aval H (aindexAddr T t (ev tm x) (ev tm y))) := rfl
@[go_sem ↓] theorem o_index {t : TypeId} {x y : Operand} : AOK P T prims n ops dr tot i d (.index t x y) rest ks tm H Q = ASK P T prims n ops dr tot i d (.index t x y) rest ks tm H Q (aval H (aindex T t (ev tm x) (ev tm y))) := rfl
def aextract (v : AV) (i : Nat) : Option AV := match v with | .tup vs => vs[i]? | _ => none
@[go_sem] theorem aextract_tup {vs : List AV} {i : Nat} : aextract (.tup vs) i = vs[i]? := rfl
@[go_sem ↓] theorem o_extract {x : Operand} {j : Nat} : AOK P T prims n ops dr tot i d (.extract x j) rest ks tm H Q = ASK P T prims n ops dr tot i d (.extract x j) rest ks tm H Q (aval H (aextract (ev tm x) j)) := by
  unfold AOK ASK AOp1; simp only [aop, aval, aextract]; cases ev tm x <;> rfl
@[go_sem ↓] theorem o_len {x : Operand} {t : TypeId} : AOK P T prims n ops dr tot i d (.call { callee := .builtin .len, args := #[x], argTypes := #[t] }) rest ks tm H Q = ASK P T prims n ops dr tot i d (.call { callee := .builtin .len, args := #[x], argTypes := #[t] }) rest ks tm H Q (aval H (alen T H t (ev tm x))) := by
  unfold AOK ASK AOp1; simp only [aop]; rfl
def aappend2 (T : TT) (H : AH) (t u : TypeId) (s x : AV) : Option (AV × AH) := aappend T H #[t, u] s x
@[go_sem ↓] theorem o_append {x y : Operand} {t u : TypeId} : AOK P T prims n ops dr tot i d (.call { callee := .builtin .append, args := #[x, y], argTypes := #[t, u] }) rest ks tm H Q = ASK P T prims n ops dr tot i d (.call { callee := .builtin .append, args := #[x, y], argTypes := #[t, u] }) rest ks tm H Q (aappend2 T H t u (ev tm x) (ev tm y)) := by
  unfold AOK ASK AOp1; simp only [aop]; rfl
end

attribute [go_sem] Bool.not_not ne_eq not_false_eq_true not_true_eq_false decide_true decide_false Bool.false_eq_true beq_self_eq_true Bool.not_true Bool.not_false and_self and_false false_and true_or or_true false_or or_false wrap_i64
@[go_sem] theorem beqT (b : Bool) : (b == true) = b := by cases b <;> rfl
@[go_sem] theorem beqF (b : Bool) : (b == false) = !b := by cases b <;> rfl
attribute [go_sem] if_true if_false List.getD_cons_zero List.getD_cons_succ Option.map_some Option.map_none List.map_cons List.map_nil true_and and_true List.getElem?_cons_zero List.getElem?_cons_succ
attribute [go_sem] aconst AV.one AV.known AV.cells astr aeq aun abound

@[go_sem] theorem put_some {tm : Tm} {d : Tmp} {v : AV} : tm.put (some d) v = tm.upd d v := rfl
@[go_sem] theorem put_none {tm : Tm} {v : AV} : tm.put none v = tm := rfl
@[go_sem] theorem upd_at {tm : Tm} {d i : Nat} {v : AV} : tm.upd d v i = if i = d then v else tm i := rfl
@[go_sem] theorem tm0_at {args : List AV} {t : Nat} : tm0 args t = args.getD t .undef := rfl
@[go_sem] theorem dstOk_some {n d : Nat} : dstOk n (some d) = decide (d < n) := rfl
@[go_sem] theorem dstOk_none {n : Nat} : dstOk n none = true := rfl
@[go_sem] theorem ares_nil {T : TT} {tm : Tm} {H : AH} : ares T tm H [] = some [] := rfl
@[go_sem] theorem ares_tmp {T : TT} {tm : Tm} {H : AH} {t : Nat} {r : List ResultVar} : ares T tm H (.tmp t :: r) = (ares T tm H r).map (tm t :: ·) := rfl
/-- A result that lies in a cell. -/
def arescell (l : Option (AV × AH)) (rs : Option (List AV)) : Option (List AV) := match l, rs with | some (v, _), some vs => some (v :: vs) | _, _ => none
@[go_sem] theorem arescell_some {H' : AH} {v : AV} {vs : List AV} : arescell (some (v, H')) (some vs) = some (v :: vs) := rfl
@[go_sem] theorem ares_cell {T : TT} {tm : Tm} {H : AH} {a : Nat} {t : TypeId} {r : List ResultVar} : ares T tm H (.cell a t :: r) = arescell (aload1 T H t (tm a)) (ares T tm H r) := by
  simp only [ares, arescell, aload1]
  cases htm : tm a <;> cases hT : T t <;> simp
  rename_i b o d
  cases hl : aload d H b o <;> cases ares T tm H r <;> simp
@[go_sem] theorem aresult_one {v : AV} : aresult [v] = v := rfl
@[go_sem] theorem aresult_nil : aresult [] = .tup [] := rfl
@[go_sem] theorem aresult_two {v u : AV} {r : List AV} : aresult (v :: u :: r) = .tup (v :: u :: r) := rfl
theorem push_size {H : AH} {x : ABlk} : (H.push x).size = H.size + 1 := rfl
theorem put_size {H : AH} {b : Nat} {x : ABlk} : (H.put b x).size = H.size := rfl
theorem push_blk {H : AH} {x : ABlk} {b : Nat} : (H.push x).blk b = if b = H.size then x else H.blk b := rfl
theorem put_blk {H : AH} {x : ABlk} {b i : Nat} : (H.put b x).blk i = if i = b ∧ i < H.size then x else H.blk i := rfl
@[go_sem] theorem push_blk_same {H : AH} {x : ABlk} : (H.push x).blk H.size = x := AH.push_same H x
@[go_sem] theorem push_blk_ne {H : AH} {x : ABlk} {b : Nat} (h : b ≠ H.size) : (H.push x).blk b = H.blk b := AH.push_ne H x h
@[go_sem] theorem put_blk_same {H : AH} {x : ABlk} {b : Nat} (h : b < H.size) : (H.put b x).blk b = x := AH.put_same H b x h
@[go_sem] theorem put_blk_ne {H : AH} {x : ABlk} {b i : Nat} (h : i ≠ b) : (H.put b x).blk i = H.blk i := AH.put_ne H b x h

def iand (k : IntKind) (a b : Int) : Int := k.wrap (BitVec.ofInt k.bits a &&& BitVec.ofInt k.bits b).toNat
def ior (k : IntKind) (a b : Int) : Int := k.wrap (BitVec.ofInt k.bits a ||| BitVec.ofInt k.bits b).toNat
def ixor (k : IntKind) (a b : Int) : Int := k.wrap (BitVec.ofInt k.bits a ^^^ BitVec.ofInt k.bits b).toNat
def iandNot (k : IntKind) (a b : Int) : Int := k.wrap (BitVec.ofInt k.bits a &&& ~~~ BitVec.ofInt k.bits b).toNat
def ishl (k : IntKind) (a b : Int) : Int := k.wrap (a * 2 ^ (min b.toNat k.bits))
def ishr (k : IntKind) (a b : Int) : Int := a.fdiv (2 ^ (min b.toNat k.bits))
@[go_sem] theorem abin_add {T : TT} {t : TypeId} {k : IntKind} {a b : Int} : abin T .add t (.int k a) (.int k b) = some (.int k (k.wrap (a + b))) := by simp [abin, aint]
@[go_sem] theorem abin_sub {T : TT} {t : TypeId} {k : IntKind} {a b : Int} : abin T .sub t (.int k a) (.int k b) = some (.int k (k.wrap (a - b))) := by simp [abin, aint]
@[go_sem] theorem abin_mul {T : TT} {t : TypeId} {k : IntKind} {a b : Int} : abin T .mul t (.int k a) (.int k b) = some (.int k (k.wrap (a * b))) := by simp [abin, aint]
@[go_sem] theorem abin_and {T : TT} {t : TypeId} {k : IntKind} {a b : Int} : abin T .and t (.int k a) (.int k b) = some (.int k (iand k a b)) := by simp [abin, aint, iand]
@[go_sem] theorem abin_or {T : TT} {t : TypeId} {k : IntKind} {a b : Int} : abin T .or t (.int k a) (.int k b) = some (.int k (ior k a b)) := by simp [abin, aint, ior]
@[go_sem] theorem abin_xor {T : TT} {t : TypeId} {k : IntKind} {a b : Int} : abin T .xor t (.int k a) (.int k b) = some (.int k (ixor k a b)) := by simp [abin, aint, ixor]
@[go_sem] theorem abin_andNot {T : TT} {t : TypeId} {k : IntKind} {a b : Int} : abin T .andNot t (.int k a) (.int k b) = some (.int k (iandNot k a b)) := by simp [abin, aint, iandNot]
@[go_sem] theorem abin_eql {T : TT} {t : TypeId} {k : IntKind} {a b : Int} : abin T .eql t (.int k a) (.int k b) = some (.bool (decide (a = b))) := by simp [abin, aint]; rfl
@[go_sem] theorem abin_neq {T : TT} {t : TypeId} {k : IntKind} {a b : Int} : abin T .neq t (.int k a) (.int k b) = some (.bool (!decide (a = b))) := by simp [abin, aint]; rfl
@[go_sem] theorem abin_lss {T : TT} {t : TypeId} {k : IntKind} {a b : Int} : abin T .lss t (.int k a) (.int k b) = some (.bool (decide (a < b))) := by simp [abin, aint]
@[go_sem] theorem abin_leq {T : TT} {t : TypeId} {k : IntKind} {a b : Int} : abin T .leq t (.int k a) (.int k b) = some (.bool (decide (a ≤ b))) := by simp [abin, aint]
@[go_sem] theorem abin_gtr {T : TT} {t : TypeId} {k : IntKind} {a b : Int} : abin T .gtr t (.int k a) (.int k b) = some (.bool (decide (b < a))) := by simp [abin, aint]
@[go_sem] theorem abin_geq {T : TT} {t : TypeId} {k : IntKind} {a b : Int} : abin T .geq t (.int k a) (.int k b) = some (.bool (decide (b ≤ a))) := by simp [abin, aint]
@[go_sem] theorem abin_quo {T : TT} {t : TypeId} {k : IntKind} {a b : Int} (h : b ≠ 0) : abin T .quo t (.int k a) (.int k b) = some (.int k (k.wrap (a.tdiv b))) := by simp [abin, aint, h]
@[go_sem] theorem abin_rem {T : TT} {t : TypeId} {k : IntKind} {a b : Int} (h : b ≠ 0) : abin T .rem t (.int k a) (.int k b) = some (.int k (a.tmod b)) := by simp [abin, aint, h]
@[go_sem] theorem abin_shl {T : TT} {t : TypeId} {k k' : IntKind} {a b : Int} (h : 0 ≤ b) : abin T .shl t (.int k a) (.int k' b) = some (.int k (ishl k a b)) := by
  simp only [abin, ishl]; rw [if_neg (by omega)]
@[go_sem] theorem abin_shr {T : TT} {t : TypeId} {k k' : IntKind} {a b : Int} (h : 0 ≤ b) : abin T .shr t (.int k a) (.int k' b) = some (.int k (ishr k a b)) := by
  simp only [abin, ishr]; rw [if_neg (by omega)]
@[go_sem] theorem abin_str {T : TT} {op : BinOp} {t : TypeId} {a b : ByteArray} : abin T op t (.str a) (.str b) = astr op a b := rfl
@[go_sem] theorem abin_bool_eq {T : TT} {t : TypeId} {a b : Bool} {d : TD} (h : T t = some d) (hd : d.d = .bool) : abin T .eql t (.bool a) (.bool b) = some (.bool (a == b)) := by simp [abin, h, hd, aeq]
@[go_sem] theorem abin_bool_ne {T : TT} {t : TypeId} {a b : Bool} {d : TD} (h : T t = some d) (hd : d.d = .bool) : abin T .neq t (.bool a) (.bool b) = some (.bool (!(a == b))) := by simp [abin, h, hd, aeq]

/-- A load of one cell. -/
theorem aload_cell {T : TT} {H : AH} {t : TypeId} {d : TD} {b o e : Nat} {ro : Bool} {xs : List AV} {v : AV} (hT : T t = some d) (ha : d.agg = false) (hb : H.blk b = .cells e ro xs) (hx : xs[o]? = some v) :
    aload1 T H t (.ptr b o) = some (v, H) := by simp [aload1, hT, aload, hb, ha, hx]
/-- A load of a struct or an array. -/
theorem aload_agg {T : TT} {H : AH} {t : TypeId} {d : TD} {b o e : Nat} {ro : Bool} {xs : List AV} (hT : T t = some d) (ha : d.agg = true) (hb : H.blk b = .cells e ro xs) (hx : o + d.size ≤ xs.length) :
    aload1 T H t (.ptr b o) = some (.agg ((xs.drop o).take d.size), H) := by simp [aload1, hT, aload, hb, ha, hx]
theorem astore_cell {T : TT} {H : AH} {t : TypeId} {d : TD} {b o e : Nat} {xs : List AV} {v : AV} (hT : T t = some d) (ha : d.agg = false) (hs : d.size = 1) (hb : H.blk b = .cells e false xs) (hx : o < xs.length) (hv : v.one = true) :
    astore1 T H t (.ptr b o) v = some (.undef, H.put b (.cells e false (xs.set o v))) := by simp [astore1, hT, astore, hb, ha, hs, hx, hv]

end Go.Proofs.Ytopbfmhajbjepaa
