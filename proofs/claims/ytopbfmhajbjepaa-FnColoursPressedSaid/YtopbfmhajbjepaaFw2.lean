/- The operations over the abstract memory. -/
import Derived.Test.YtopbfmhajbjepaaFw1
namespace Go.Proofs.Ytopbfmhajbjepaa
open Go

/-- What the operations ask of a type. -/
structure TD where
  d : TypeDesc
  agg : Bool
  size : Nat
  bytes : Nat
  zero : List AV

def TD.zv (t : TD) : AV := if t.agg then .agg t.zero else t.zero.headD .undef

abbrev TT := TypeId → Option TD

def TDOK (P : Program) (t : TypeId) (d : TD) : Prop :=
  P.underlying t = some d.d ∧ d.agg = (match d.d with | .struct _ | .array _ _ => true | _ => false) ∧
  ∃ i z, P.info? t = some i ∧ i.size = d.size ∧ i.bytes = d.bytes ∧ i.zero = some z ∧ VRels (fun _ => none) d.zero z.cells.toList ∧ d.zero.length = d.size ∧
    VRel (fun _ => none) d.zv z

abbrev Tm := Nat → AV
def Tm.upd (tm : Tm) (t : Nat) (v : AV) : Tm := fun i => if i = t then v else tm i

def aconst : Value → AV
  | .bool b => .bool b
  | .int k n => .int k n
  | .string s => .str s
  | .pointer none => .nilptr
  | .slice none 0 0 => .nilsl
  | .map none => .nilmap
  | .nilFunc => .nilfn
  | .nilIface => .niliface
  | _ => .undef

def ev (tm : Tm) : Operand → AV
  | .tmp t => tm t
  | .const v => aconst v
  | .global _ => .undef
  | .func f => .fn f []

/-- One cell's value, and none that is not known. -/
def AV.one : AV → Bool
  | .undef | .agg _ | .tup _ => false
  | _ => true

def AV.cells : AV → List AV
  | .agg cs => cs
  | v => [v]

def AV.known : AV → Bool
  | .undef | .tup _ => false
  | _ => true

def splice (xs : List AV) (o : Nat) (cs : List AV) : List AV := xs.take o ++ cs ++ xs.drop (o + cs.length)

def AH.rd (H : AH) (b o : Nat) : Option AV := match H.blk b with | .cells _ _ xs => xs[o]? | _ => none

def aload (d : TD) (H : AH) (b o : Nat) : Option AV :=
  match H.blk b with
  | .cells _ _ xs => if d.agg then (if o + d.size ≤ xs.length then some (.agg ((xs.drop o).take d.size)) else none) else xs[o]?
  | _ => none

def astore (d : TD) (H : AH) (b o : Nat) (v : AV) : Option AH :=
  match H.blk b with
  | .cells e false xs =>
    if d.agg then (if v.cells.length = d.size ∧ o + d.size ≤ xs.length ∧ v.cells.all AV.one = true then some (H.put b (.cells e false (splice xs o v.cells))) else none)
    else (if v.one = true ∧ o < xs.length ∧ d.size = 1 then some (H.put b (.cells e false (xs.set o v))) else none)
  | _ => none

def aint (op : BinOp) (k : IntKind) (a b : Int) : Option AV :=
  match op with
  | .add => some (.int k (k.wrap (a + b)))
  | .sub => some (.int k (k.wrap (a - b)))
  | .mul => some (.int k (k.wrap (a * b)))
  | .quo => if b = 0 then none else some (.int k (k.wrap (a.tdiv b)))
  | .rem => if b = 0 then none else some (.int k (a.tmod b))
  | .and => some (.int k (k.wrap (BitVec.ofInt k.bits a &&& BitVec.ofInt k.bits b).toNat))
  | .or => some (.int k (k.wrap (BitVec.ofInt k.bits a ||| BitVec.ofInt k.bits b).toNat))
  | .xor => some (.int k (k.wrap (BitVec.ofInt k.bits a ^^^ BitVec.ofInt k.bits b).toNat))
  | .andNot => some (.int k (k.wrap (BitVec.ofInt k.bits a &&& ~~~ BitVec.ofInt k.bits b).toNat))
  | .eql => some (.bool (a == b))
  | .neq => some (.bool (a != b))
  | .lss => some (.bool (decide (a < b)))
  | .leq => some (.bool (decide (a ≤ b)))
  | .gtr => some (.bool (decide (a > b)))
  | .geq => some (.bool (decide (a ≥ b)))
  | _ => none

def astr (op : BinOp) (x y : ByteArray) : Option AV :=
  match op with
  | .add => if ((x.size + y.size : Nat) : Int) > IntKind.i64.max then none else some (.str (x ++ y))
  | .eql => some (.bool (x.toList == y.toList))
  | .neq => some (.bool (!(x.toList == y.toList)))
  | .lss => some (.bool (Op.bytesLess x.toList y.toList))
  | .leq => some (.bool (Op.bytesLess x.toList y.toList || x.toList == y.toList))
  | .gtr => some (.bool (!(Op.bytesLess x.toList y.toList || x.toList == y.toList)))
  | .geq => some (.bool (!Op.bytesLess x.toList y.toList))
  | _ => none

/-- Whether two values are one, where one side is the literal nil, or both are bools. -/
def aeq (d : TypeDesc) (x y : AV) : Option Bool :=
  match d, x, y with
  | .bool, .bool a, .bool b => some (a == b)
  | .pointer _, .nilptr, .nilptr => some true
  | .pointer _, .ptr _ _, .nilptr | .pointer _, .nilptr, .ptr _ _ => some false
  | .slice _, .nilsl, .nilsl => some true
  | .slice _, .sl _ _ _, .nilsl | .slice _, .nilsl, .sl _ _ _ => some false
  | .map _ _, .nilmap, .nilmap => some true
  | .map _ _, .map _, .nilmap | .map _ _, .nilmap, .map _ => some false
  | .func _ _ _, .nilfn, .nilfn => some true
  | .func _ _ _, .fn _ _, .nilfn | .func _ _ _, .nilfn, .fn _ _ => some false
  | .interface _, .iface _ _, .niliface => some false
  | _, _, _ => none

def abin (T : TT) (op : BinOp) (t : TypeId) (x y : AV) : Option AV :=
  match x, y with
  | .int k a, .int k' b =>
    match op with
    | .shl => if b < 0 then none else some (.int k (k.wrap (a * 2 ^ (min b.toNat k.bits))))
    | .shr => if b < 0 then none else some (.int k (a.fdiv (2 ^ (min b.toNat k.bits))))
    | op => if k = k' then aint op k a b else none
  | .str a, .str b => astr op a b
  | .agg _, _ => none
  | .niliface, .niliface => none
  | x, y =>
    match T t, op with
    | some d, .eql => (aeq d.d x y).map .bool
    | some d, .neq => (aeq d.d x y).map fun r => .bool (!r)
    | _, _ => none

def aun (op : UnOp) (x : AV) : Option AV :=
  match op, x with
  | .neg, .int k n => some (.int k (k.wrap (0 - n)))
  | .xor, .int k n => some (.int k (k.wrap (BitVec.ofInt k.bits (if k.signed then -1 else k.max) ^^^ BitVec.ofInt k.bits n).toNat))
  | .not, .bool b => some (.bool (!b))
  | _, _ => none

def afill (place : Nat → Option (Nat × Nat)) (cells : List AV) : List (Nat × AV) → Option (List AV)
  | [] => some cells
  | (i, v) :: rest =>
    match place i with
    | none => none
    | some (off, size) => if v.cells.length ≠ size ∨ off + v.cells.length > cells.length ∨ v.known = false then none else afill place (splice cells off v.cells) rest

def aplaces (T : TT) : List Field → Option (List (Nat × Nat))
  | [] => some []
  | f :: fs => match T f.type, aplaces T fs with
    | some d, some r => some ((f.offset, d.size) :: r)
    | _, _ => none

/-- The cells that a slice, or a string, is appended as. -/
def asource (H : AH) (size : Nat) : AV → Option (Nat × List AV)
  | .nilsl => some (0, [])
  | .sl b o n => match H.blk b with
    | .cells e _ xs => if e = size ∧ o + n * size ≤ xs.length then some (n, (xs.drop o).take (n * size)) else none
    | _ => none
  | .str s => if size = 1 then some (s.size, s.data.toList.map fun b => .int .u8 b.toNat) else none
  | _ => none

def AH.kill (H : AH) (s : AV) : Option AH :=
  match s with
  | .nilsl => some H
  | .sl b _ _ => match H.blk b with
    | .cells _ false _ => some (H.put b .dead)
    | _ => none
  | _ => none

/-- What is appended is a slice or a string (and no number of zeros). -/
def srcOk (T : TT) (u : Option TypeId) : Bool :=
  match u with
  | some u => match T u with
    | some du => (match du.d with | .slice _ | .string => true | _ => false)
    | none => false
  | none => false

def aappend (T : TT) (H : AH) (ts : Array TypeId) (s x : AV) : Option (AV × AH) :=
  match ts[0]? with
  | none => none
  | some t => match T t with
    | none => none
    | some d => match d.d with
      | .slice e => match T e with
        | none => none
        | some de =>
          if srcOk T ts[1]? = false then none else
          match asource H de.size s, asource H de.size x with
          | some (n, old), some (m, new) =>
            if de.size = 0 ∨ new.all AV.one = false ∨ (n + m) * de.bytes > 140737488355328 ∨ n + m > 9223372036854775807 then none
            else if m = 0 then (match s with | .str _ => none | _ => some (s, H))
            else match H.kill s with
              | none => none
              | some H1 => some (.sl H.size 0 (n + m), H1.push (.cells de.size false (old ++ new)))
          | _, _ => none
      | _ => none

def alen (T : TT) (H : AH) (t : TypeId) (x : AV) : Option AV :=
  match T t with
  | none => none
  | some d => match d.d, x with
    | .string, .str s => some (.int .i64 s.size)
    | .slice _, .sl _ _ n => some (.int .i64 n)
    | .slice _, .nilsl => some (.int .i64 0)
    | .array n _, _ => some (.int .i64 n)
    | .map _ _, .nilmap => some (.int .i64 0)
    | .map _ _, .map b => match H.blk b with | .map es => some (.int .i64 es.length) | _ => none
    | _, _ => none

def abuiltin (T : TT) (H : AH) (b : Builtin) (ts : Array TypeId) (args : List AV) : Option (AV × AH) :=
  match b, args with
  | .len, [x] => match ts[0]? with
    | some t => (alen T H t x).map fun v => (v, H)
    | none => none
  | .append, [s, x] => aappend T H ts s x
  | _, _ => none

def aindexAddr (T : TT) (t : TypeId) (x i : AV) : Option AV :=
  match T t, i with
  | some d, .int _ i => match d.d, x with
    | .slice e, .sl b o n => match T e with
      | some de => if 0 ≤ i ∧ i < (n : Int) then some (.ptr b (o + i.toNat * de.size)) else none
      | none => none
    | .array n e, .ptr b o => match T e with
      | some de => if 0 ≤ i ∧ i < (n : Int) then some (.ptr b (o + i.toNat * de.size)) else none
      | none => none
    | _, _ => none
  | _, _ => none

def abound (x : Option AV) (dflt : Nat) (y : Nat) : Option Nat :=
  match x with
  | none => some dflt
  | some (.int _ i) => if 0 ≤ i ∧ i ≤ (y : Int) then some i.toNat else none
  | _ => none

/-- The cells of an element of a block. -/
def AH.esz (H : AH) (b : Nat) : Nat := match H.blk b with | .cells e _ _ => e | _ => 0

def aslice (T : TT) (H : AH) (t : TypeId) (x : AV) (lo hi : Option AV) : Option AV :=
  match T t with
  | none => none
  | some d => match d.d, x with
    | .slice e, .sl b o n => match T e, abound hi n n with
      | some de, some h => match abound lo 0 h with
        | some l => if H.esz b = de.size ∧ de.size ≠ 0 then some (.sl b (o + l * de.size) (h - l)) else none
        | none => none
      | _, _ => none
    | .slice e, .nilsl => match T e, abound hi 0 0 with
      | some _, some h => match abound lo 0 h with
        | some _ => some .nilsl
        | none => none
      | _, _ => none
    | .string, .str s => match abound hi s.size s.size with
      | some h => match abound lo 0 h with
        | some l => some (.str (s.extract l h))
        | none => none
      | none => none
    | _, _ => none

def afield (T : TT) (t : TypeId) (x : AV) (f : Nat) : Option AV :=
  match T t, x with
  | some d, .agg cs => match d.d with
    | .struct fs => match fs[f]? with
      | some fl => match T fl.type with
        | some df => if df.agg then some (.agg ((cs.drop fl.offset).take df.size)) else cs[fl.offset]?
        | none => none
      | none => none
    | _ => none
  | _, _ => none

def afieldAddr (T : TT) (t : TypeId) (x : AV) (f : Nat) : Option AV :=
  match T t, x with
  | some d, .ptr b o => match d.d with
    | .struct fs => match fs[f]? with
      | some fl => match T fl.type with
        | some df => if df.size = 0 then none else some (.ptr b (o + fl.offset))
        | none => none
      | none => none
    | _ => none
  | _, _ => none

def aindex (T : TT) (t : TypeId) (x i : AV) : Option AV :=
  match T t, i with
  | some d, .int _ i => match d.d, x with
    | .string, .str s => if 0 ≤ i then (match s[i.toNat]? with | some b => some (.int .u8 b.toNat) | none => none) else none
    | .array n e, .agg cs => match T e with
      | some de => if 0 ≤ i ∧ i < (n : Int) then (if de.agg then some (.agg ((cs.drop (i.toNat * de.size)).take de.size)) else cs[i.toNat * de.size]?) else none
      | none => none
    | _, _ => none
  | _, _ => none

/-- Bytes as a string. -/
def strN (ns : List Int) : ByteArray := ⟨(ns.map fun n => UInt8.ofNat n.toNat).toArray⟩
/-- Cells that are bytes. -/
def abytes : List AV → Option (List Int)
  | [] => some []
  | .int .u8 n :: l => (abytes l).map (n :: ·)
  | _ => none
def asbytes (H : AH) (x : AV) : Option AV :=
  match asource H 1 x with
  | some (_, cs) => (abytes cs).map fun ns => .str (strN ns)
  | none => none
def aconv (T : TT) (H : AH) (src dst : TypeId) (x : AV) : Option AV :=
  match T src, T dst with
  | some ds, some dd => match dd.d, x with
    | .int k, .int _ n => some (.int k (k.wrap n))
    | .string, .str s => some (.str s)
    | .string, .sl b o n => match ds.d with
      | .slice e => match T e with
        | some de => match de.d with
          | .int .u8 => asbytes H (.sl b o n)
          | _ => none
        | none => none
      | _ => none
    | _, _ => none
  | _, _ => none

def amakeSlice (T : TT) (H : AH) (t : TypeId) (l c : AV) : Option (AV × AH) :=
  match T t, l, c with
  | some d, .int _ l, .int _ c => match d.d with
    | .slice e => match T e with
      | some de => if 0 ≤ l ∧ l = c ∧ l * de.bytes ≤ 140737488355328 ∧ l ≤ 9223372036854775807 ∧ 0 < de.size then
          some (.sl H.size 0 l.toNat, H.push (.cells de.size false (List.replicate l.toNat de.zero).flatten)) else none
      | none => none
    | _ => none
  | _, _, _ => none

def abuildSlice (T : TT) (H : AH) (t : TypeId) (len : Nat) (parts : List (Nat × AV)) : Option (AV × AH) :=
  match T t with
  | some d => match d.d with
    | .slice e => match T e with
      | some de => if len * de.size > 16777216 ∨ de.size = 0 then none else
        match afill (fun i => some (i * de.size, de.size)) (List.replicate len de.zero).flatten parts with
        | some cells => some (.sl H.size 0 len, H.push (.cells de.size false cells))
        | none => none
      | none => none
    | _ => none
  | none => none

def abuild (T : TT) (t : TypeId) (parts : List (Nat × AV)) : Option AV :=
  match T t with
  | some d => match d.d with
    | .struct fs => match aplaces T fs.toList with
      | some pl => (afill (pl[·]?) d.zero parts).map .agg
      | none => none
    | .array _ e => match T e with
      | some de => (afill (fun i => some (i * de.size, de.size)) d.zero parts).map .agg
      | none => none
    | _ => none
  | none => none

/-- One operation that calls no function. -/
def aop (T : TT) (tm : Tm) (H : AH) (op : Op) : Option (AV × AH) :=
  match op with
  | .move x => some (ev tm x, H)
  | .assign x => some (ev tm x, H)
  | .pick c a b => match ev tm c with
    | .bool t => some (if t then ev tm a else ev tm b, H)
    | _ => none
  | .alloc t => match T t with
    | some d => some (.ptr H.size 0, H.push (.cells d.size false d.zero))
    | none => none
  | .box _ x => if (ev tm x).known then some (.ptr H.size 0, H.push (.cells (ev tm x).cells.length false (ev tm x).cells)) else none
  | .build t parts => (abuild T t (parts.toList.map fun (i, x) => (i, ev tm x))).map fun v => (v, H)
  | .buildSlice t len parts => abuildSlice T H t len (parts.toList.map fun (i, x) => (i, ev tm x))
  | .load t a => match T t, ev tm a with
    | some d, .ptr b o => (aload d H b o).map fun v => (v, H)
    | _, _ => none
  | .store t a x => match T t, ev tm a with
    | some d, .ptr b o => (astore d H b o (ev tm x)).map fun H' => (.undef, H')
    | _, _ => none
  | .nilCheck x => match ev tm x with
    | .ptr b o => some (.ptr b o, H)
    | _ => none
  | .binOp op t x y _ => (abin T op t (ev tm x) (ev tm y)).map fun v => (v, H)
  | .unOp op _ x => (aun op (ev tm x)).map fun v => (v, H)
  | .convert src dst x => (aconv T H src dst (ev tm x)).map fun v => (v, H)
  | .makeFunc (.func f) first captured => if first = #[] then some (.fn f (captured.toList.map (ev tm)), H) else none
  | .makeSlice t l c => amakeSlice T H t (ev tm l) (ev tm c)
  | .slice t x lo hi none => (aslice T H t (ev tm x) (lo.map (ev tm)) (hi.map (ev tm))).map fun v => (v, H)
  | .fieldAddr t x f => (afieldAddr T t (ev tm x) f).map fun v => (v, H)
  | .field t x f => (afield T t (ev tm x) f).map fun v => (v, H)
  | .indexAddr t x i => (aindexAddr T t (ev tm x) (ev tm i)).map fun v => (v, H)
  | .index t x i => (aindex T t (ev tm x) (ev tm i)).map fun v => (v, H)
  | .extract x i => match ev tm x with
    | .tup vs => (vs[i]?).map fun v => (v, H)
    | _ => none
  | .call c => match c.callee with
    | .builtin b => abuiltin T H b c.argTypes (c.args.toList.map (ev tm))
    | _ => none
  | _ => none

end Go.Proofs.Ytopbfmhajbjepaa
