/- How slices read in the abstract memory. -/
import Derived.Test.YtopbfmhajbjepaaTy
import Derived.Test.YtopbfmhajbjepaaBt
import Derived.Test.YtopbfmhajbjepaaFw18
namespace Go.Proofs.Ytopbfmhajbjepaa
open Go

/-- Functions that are known by what they do: none here. -/
def PR : PrimT := fun _ => none
theorem PR_none (f : FuncId) : PR f = none := rfl
abbrev E := Ev Try.prog TA PR

/-- A slice reads as cells, 'e' for each element. -/
def SliceAt (H : AH) (v : AV) (e : Nat) (cs : List AV) : Prop :=
  (v = .nilsl ∧ cs = []) ∨ ∃ b o n ro xs, v = .sl b o n ∧ H.blk b = .cells e ro xs ∧ o + n * e ≤ xs.length ∧ (xs.drop o).take (n * e) = cs

def ints (l : List Int) : List AV := l.map (.int .i64)
def bytes (l : List UInt8) : List AV := l.map fun b => .int .u8 b.toNat

@[simp] theorem ints_length (l : List Int) : (ints l).length = l.length := by simp [ints]
theorem ints_get {l : List Int} {i : Nat} (h : i < l.length) : (ints l)[i]? = some (.int .i64 l[i]) := by simp [ints, h]
theorem ints_append (a b : List Int) : ints (a ++ b) = ints a ++ ints b := by simp [ints]
@[simp] theorem ints_nil : ints [] = [] := rfl
@[simp] theorem ints_cons (x : Int) (l : List Int) : ints (x :: l) = .int .i64 x :: ints l := rfl
theorem ints_one (l : List Int) : (ints l).all AV.one = true := by simp [ints, AV.one]
theorem ints_inj {a b : List Int} (h : ints a = ints b) : a = b := by
  have := congrArg (List.map fun | .int _ n => n | _ => 0) h
  simpa [ints, Function.comp_def] using this

theorem SliceAt.ext {H H' : AH} {v : AV} {e : Nat} {cs : List AV} (h : SliceAt H v e cs) (hx : Ext H H') : SliceAt H' v e cs := by
  rcases h with h | ⟨b, o, n, ro, xs, h1, h2, h3, h4⟩
  · exact .inl h
  · exact .inr ⟨b, o, n, ro, xs, h1, hx.cells h2, h3, h4⟩

theorem SliceAt.len {H H' : AH} {v : AV} {e : Nat} {cs : List AV} (h : SliceAt H v e cs) (he : e = 1) {t t2 : TypeId} {d : TD} (hT : TA t = some d) (hd : d.d = .slice t2) (_ : Ext H H') :
    alen TA H' t v = some (.int .i64 cs.length) := by
  subst he
  rcases h with ⟨rfl, rfl⟩ | ⟨b, o, n, ro, xs, rfl, h2, h3, h4⟩
  · simp [alen, hT, hd]
  · have : cs.length = n := by rw [← h4]; simp; omega
    simp [alen, hT, hd, this]

def AV.sb : AV → Nat | .sl b _ _ => b | _ => 0
def AV.so : AV → Nat | .sl _ o _ => o | _ => 0

/-- An element's address. -/
theorem SliceAt.ix {H : AH} {v : AV} {cs : List AV} (h : SliceAt H v 1 cs) {t te : TypeId} {d de : TD} (hT : TA t = some d) (hd : d.d = .slice te) (hTe : TA te = some de) (hs : de.size = 1)
    {i : Int} (h0 : 0 ≤ i) (hi : i < cs.length) : aindexAddr TA t v (.int .i64 i) = some (.ptr v.sb (v.so + i.toNat)) := by
  rcases h with ⟨rfl, rfl⟩ | ⟨b, o, n, ro, xs, rfl, h2, h3, h4⟩
  · simp at hi; omega
  · have hn : cs.length = n := by rw [← h4]; simp; omega
    simp only [aindexAddr, hT, hd, hTe, hs, Nat.mul_one, AV.sb, AV.so]
    rw [if_pos (by omega)]
/-- What lies there. -/
theorem SliceAt.ld {H H' : AH} {v : AV} {cs : List AV} (h : SliceAt H v 1 cs) {te : TypeId} {de : TD} (hTe : TA te = some de) (ha : de.agg = false) (hx : Ext H H')
    {i : Nat} (hi : i < cs.length) : aload1 TA H' te (.ptr v.sb (v.so + i)) = some (cs[i], H') := by
  rcases h with ⟨rfl, rfl⟩ | ⟨b, o, n, ro, xs, rfl, h2, h3, h4⟩
  · simp at hi
  · have hn : cs.length = n := by rw [← h4]; simp; omega
    have hx' : xs[o + i]? = some cs[i] := by
      subst h4
      rw [← List.getElem?_eq_getElem hi, List.getElem?_take_of_lt (by omega), List.getElem?_drop]
    exact aload_cell hTe ha (hx.cells h2) hx'

abbrev IntsAt (H : AH) (v : AV) (l : List Int) : Prop := SliceAt H v 1 (ints l)

section
variable {H H' : AH} {v : AV} {l : List Int}
theorem IntsAt.len (h : IntsAt H v l) (x : Ext H H') : alen TA H' 22 v = some (.int .i64 l.length) := by
  have := SliceAt.len h rfl (t := 22) rfl rfl x
  simpa using this
theorem IntsAt.ix (h : IntsAt H v l) {i : Int} (h0 : 0 ≤ i) (hi : i < l.length) : aindexAddr TA 22 v (.int .i64 i) = some (.ptr v.sb (v.so + i.toNat)) :=
  SliceAt.ix h (t := 22) (te := 3) rfl rfl rfl rfl h0 (by simpa using hi)
theorem IntsAt.ld (h : IntsAt H v l) (x : Ext H H') {i : Nat} (hi : i < l.length) : aload1 TA H' 3 (.ptr v.sb (v.so + i)) = some (.int .i64 (l.getD i 0), H') := by
  rw [SliceAt.ld h (te := 3) rfl rfl x (i := i) (by simpa using hi)]
  simp [ints, List.getD, hi]
end

/-- A list of natural numbers. -/
def zs (l : List Nat) : List Int := l.map Int.ofNat
@[simp] theorem zs_length (l : List Nat) : (zs l).length = l.length := by simp [zs]
theorem zs_getD (l : List Nat) (i : Nat) : (zs l).getD i 0 = ((l.getD i 0 : Nat) : Int) := by
  simp only [zs, List.getD, List.getElem?_map]; cases l[i]? <;> rfl
abbrev NatsAt (H : AH) (v : AV) (l : List Nat) : Prop := IntsAt H v (zs l)
section
variable {H H' : AH} {v : AV} {l : List Nat}
theorem NatsAt.len (h : NatsAt H v l) (x : Ext H H') : alen TA H' 22 v = some (.int .i64 l.length) := by
  have := IntsAt.len h x; rwa [zs_length] at this
theorem NatsAt.ix (h : NatsAt H v l) {i : Int} (h0 : 0 ≤ i) (hi : i < l.length) : aindexAddr TA 22 v (.int .i64 i) = some (.ptr v.sb (v.so + i.toNat)) :=
  IntsAt.ix h h0 (by simpa using hi)
theorem NatsAt.ld (h : NatsAt H v l) (x : Ext H H') {i : Nat} (hi : i < l.length) : aload1 TA H' 3 (.ptr v.sb (v.so + i)) = some (.int .i64 (l.getD i 0 : Nat), H') := by
  rw [IntsAt.ld h x (by simpa using hi), zs_getD]
end

theorem getD_mem {l : List Int} {i : Nat} (h : i < l.length) : l.getD i 0 ∈ l := by
  simp [List.getD, h]
theorem mem_getD {α : Type} {l : List α} {x d : α} (h : x ∈ l) : ∃ i, i < l.length ∧ l.getD i d = x := by
  obtain ⟨i, hi, rfl⟩ := List.getElem_of_mem h
  exact ⟨i, hi, by simp [List.getD, hi]⟩
attribute [go_sem] Int.toNat_natCast Int.natCast_nonneg
theorem SliceAt.isOne {H : AH} {v : AV} {e : Nat} {cs : List AV} (h : SliceAt H v e cs) : v.one = true := by
  rcases h with ⟨rfl, _⟩ | ⟨b, o, n, ro, xs, rfl, _⟩ <;> rfl

@[go_sem] theorem bool_eq {a b : Bool} : abin TA .eql 4 (.bool a) (.bool b) = some (.bool (decide (a = b))) := by
  rw [abin_bool_eq (d := _) rfl rfl]; cases a <;> cases b <;> rfl
@[go_sem] theorem bool_ne {a b : Bool} : abin TA .neq 4 (.bool a) (.bool b) = some (.bool (!decide (a = b))) := by
  rw [abin_bool_ne (d := _) rfl rfl]; cases a <;> cases b <;> rfl
/- A thing that was boxed: its fields. -/
theorem box_ld {H0 H' : AH} {e o : Nat} {ro : Bool} {xs : List AV} {v : AV} {t : TypeId} {d : TD} (x : Ext (H0.push (.cells e ro xs)) H') (hT : TA t = some d) (ha : d.agg = false) (hv : xs[o]? = some v) :
    aload1 TA H' t (.ptr H0.size o) = some (v, H') := aload_cell hT ha (x.cells (AH.push_same H0 _)) hv
@[go_sem] theorem box_sl0 {H0 H' : AH} {e : Nat} {ro : Bool} {a : AV} {r : List AV} (x : Ext (H0.push (.cells e ro (a :: r))) H') : aload1 TA H' 22 (.ptr H0.size 0) = some (a, H') := box_ld x rfl rfl rfl
@[go_sem] theorem box_sl1 {H0 H' : AH} {e : Nat} {ro : Bool} {a b : AV} {r : List AV} (x : Ext (H0.push (.cells e ro (a :: b :: r))) H') : aload1 TA H' 22 (.ptr H0.size 1) = some (b, H') := box_ld x rfl rfl rfl
@[go_sem] theorem box_sl2 {H0 H' : AH} {e : Nat} {ro : Bool} {a b c : AV} {r : List AV} (x : Ext (H0.push (.cells e ro (a :: b :: c :: r))) H') : aload1 TA H' 22 (.ptr H0.size 2) = some (c, H') := box_ld x rfl rfl rfl
@[go_sem] theorem box_int0 {H0 H' : AH} {e : Nat} {ro : Bool} {a : AV} {r : List AV} (x : Ext (H0.push (.cells e ro (a :: r))) H') : aload1 TA H' 3 (.ptr H0.size 0) = some (a, H') := box_ld x rfl rfl rfl
@[go_sem] theorem box_int1 {H0 H' : AH} {e : Nat} {ro : Bool} {a b : AV} {r : List AV} (x : Ext (H0.push (.cells e ro (a :: b :: r))) H') : aload1 TA H' 3 (.ptr H0.size 1) = some (b, H') := box_ld x rfl rfl rfl
@[go_sem] theorem box_int2 {H0 H' : AH} {e : Nat} {ro : Bool} {a b c : AV} {r : List AV} (x : Ext (H0.push (.cells e ro (a :: b :: c :: r))) H') : aload1 TA H' 3 (.ptr H0.size 2) = some (c, H') := box_ld x rfl rfl rfl
@[go_sem] theorem box_bool0 {H0 H' : AH} {e : Nat} {ro : Bool} {a : AV} {r : List AV} (x : Ext (H0.push (.cells e ro (a :: r))) H') : aload1 TA H' 4 (.ptr H0.size 0) = some (a, H') := box_ld x rfl rfl rfl
@[go_sem] theorem box_bool1 {H0 H' : AH} {e : Nat} {ro : Bool} {a b : AV} {r : List AV} (x : Ext (H0.push (.cells e ro (a :: b :: r))) H') : aload1 TA H' 4 (.ptr H0.size 1) = some (b, H') := box_ld x rfl rfl rfl
@[go_sem] theorem box_bool2 {H0 H' : AH} {e : Nat} {ro : Bool} {a b c : AV} {r : List AV} (x : Ext (H0.push (.cells e ro (a :: b :: c :: r))) H') : aload1 TA H' 4 (.ptr H0.size 2) = some (c, H') := box_ld x rfl rfl rfl
@[go_sem] theorem graph_box {H : AH} {s : AV} {o : Bool} (h : s.one = true) : abox H (.agg [s, .bool o]) = some (.ptr H.size 0, H.push (.cells 2 false [s, .bool o])) := by
  cases s <;> simp_all [abox, AV.known, AV.cells, AV.one]
@[go_sem] theorem graph_box_sl {H : AH} {b i n : Nat} {o : Bool} : abox H (.agg [.sl b i n, .bool o]) = some (.ptr H.size 0, H.push (.cells 2 false [.sl b i n, .bool o])) := graph_box rfl
@[go_sem] theorem graph_box_nil {H : AH} {o : Bool} : abox H (.agg [.nilsl, .bool o]) = some (.ptr H.size 0, H.push (.cells 2 false [.nilsl, .bool o])) := graph_box rfl
@[go_sem] theorem graph_f0 {b o : Nat} : afieldAddr TA 26 (.ptr b o) 0 = some (.ptr b o) := rfl
@[go_sem] theorem graph_f1 {b o : Nat} : afieldAddr TA 26 (.ptr b o) 1 = some (.ptr b (o + 1)) := rfl
theorem Ext.szlt {H0 H : AH} {y : ABlk} (x : Ext (H0.push y) H) : H0.size < H.size := x.size
/-- Memory where a block that is newer was written. -/
theorem Ext.put {H0 H : AH} (h : Ext H0 H) {b : Nat} (hb : H0.size ≤ b) (x : ABlk) : Ext H0 (H.put b x) :=
  ⟨h.size, fun c hc => by rw [put_blk, if_neg (by omega)]; exact h.quiet c hc⟩

/-- A row of cells that may be written, as a whole block: a list of natural numbers. -/
def RowAt (H : AH) (b : Nat) (l : List Nat) : Prop := H.blk b = .cells 1 false (ints (zs l))
def rowBlk (l : List Nat) : ABlk := .cells 1 false (ints (zs l))
theorem RowAt.lt {H : AH} {b : Nat} {l : List Nat} (h : RowAt H b l) : b < H.size := AH.cells_lt h
theorem RowAt.nats {H : AH} {b : Nat} {l : List Nat} (h : RowAt H b l) : NatsAt H (.sl b 0 l.length) l :=
  .inr ⟨b, 0, l.length, false, _, rfl, h, by simp, by rw [List.drop_zero, List.take_of_length_le (by simp)]⟩
theorem RowAt.put {H : AH} {b : Nat} {l l' : List Nat} (h : RowAt H b l) : RowAt (H.put b (rowBlk l')) b l' := put_blk_same h.lt
theorem RowAt.ext {H H' : AH} {b : Nat} {l : List Nat} (h : RowAt H b l) (x : Ext H H') : RowAt H' b l := x.cells h

theorem zs_set (l : List Nat) (i x : Nat) : ints (zs (l.set i x)) = (ints (zs l)).set i (.int .i64 x) := by
  simp [zs, ints, List.map_set]
theorem sl_ix {t te : TypeId} {d de : TD} (hT : TA t = some d) (hd : d.d = .slice te) (hTe : TA te = some de) (hs : de.size = 1) {b o n : Nat} {i : Int} (h0 : 0 ≤ i) (hi : i < n) :
    aindexAddr TA t (.sl b o n) (.int .i64 i) = some (.ptr b (o + i.toNat)) := by
  simp only [aindexAddr, hT, hd, hTe, hs, Nat.mul_one]
  rw [if_pos (by omega)]
@[go_sem] theorem row_ix {b o n : Nat} {i : Int} (h0 : 0 ≤ i) (hi : i < n) : aindexAddr TA 22 (.sl b o n) (.int .i64 i) = some (.ptr b (o + i.toNat)) := sl_ix (t := 22) rfl rfl (te := 3) rfl rfl h0 hi
theorem RowAt.ld {H H' : AH} {b : Nat} {l : List Nat} (h : RowAt H b l) (x : Ext H H') {i : Nat} (hi : i < l.length) :
    aload1 TA H' 3 (.ptr b i) = some (.int .i64 (l.getD i 0 : Nat), H') := by
  have := NatsAt.ld h.nats x hi
  simpa [AV.sb, AV.so] using this
theorem RowAt.st {H H' : AH} {b : Nat} {l : List Nat} (h : RowAt H b l) (x : Ext H H') {i : Nat} (hi : i < l.length) {y : Nat} :
    astore1 TA H' 3 (.ptr b i) (.int .i64 y) = some (.undef, H'.put b (rowBlk (l.set i y))) := by
  rw [rowBlk, zs_set]
  exact astore_cell (t := 3) rfl rfl rfl (h.ext x) (by simpa using hi) rfl
theorem RowAt.of {H H' : AH} {b : Nat} {l : List Nat} (hb : b < H.size) (x : Ext (H.put b (rowBlk l)) H') : RowAt H' b l := x.cells (put_blk_same hb)
@[go_sem] theorem put_ld {H : AH} {b : Nat} {l : List Nat} (hb : b < H.size) {i : Nat} (hi : i < l.length) :
    aload1 TA (H.put b (rowBlk l)) 3 (.ptr b i) = some (.int .i64 (l.getD i 0 : Nat), H.put b (rowBlk l)) := (RowAt.of hb (Ext.refl _)).ld (Ext.refl _) hi
@[go_sem] theorem put_st {H : AH} {b : Nat} {l : List Nat} (hb : b < H.size) {i : Nat} (hi : i < l.length) {y : Nat} :
    astore1 TA (H.put b (rowBlk l)) 3 (.ptr b i) (.int .i64 y) = some (.undef, (H.put b (rowBlk l)).put b (rowBlk (l.set i y))) := (RowAt.of hb (Ext.refl _)).st (Ext.refl _) hi
attribute [go_sem] Nat.zero_add
@[go_sem] theorem put_skip {H : AH} {b c k : Nat} {x : ABlk} {t : TypeId} (h : c ≠ b) : aload1 TA (H.put b x) t (.ptr c k) = (aload1 TA H t (.ptr c k)).map fun p => (p.1, H.put b x) := by
  unfold aload1
  cases hT : TA t with
  | none => rfl
  | some d =>
    simp only
    have : aload d (H.put b x) c k = aload d H c k := by unfold aload; rw [put_blk_ne h]
    rw [this]
    cases aload d H c k <;> rfl

theorem slice_old {H H' : AH} {v : AV} {e : Nat} {cs : List AV} (h : SliceAt H v e cs) (hs : H.size ≤ H'.size) (ho : ∀ b, b < H.size → H'.blk b = H.blk b) : SliceAt H' v e cs := h.ext ⟨hs, ho⟩
theorem PR_ok : PrimOK Try.prog PR := ⟨fun f g args H v H' h => by simp [PR] at h, fun f g args H v H' h => by simp [PR] at h, fun f g h => by simp [PR] at h⟩

/-- Old memory lies as it did. -/
theorem xt {H H' : AH} (h : Ext H H' := by (repeat (first | with_reducible exact Ext.refl _ | with_reducible assumption | with_reducible refine Ext.trans ?_ (Ext.push _ _) | with_reducible refine Ext.put ?_ (by first | omega | (simp only [push_size, put_size]; omega)) _ | with_reducible refine Ext.trans ?_ (by assumption)))) : Ext H H' := h
/-- What a walk's simp has to show beside. -/
theorem dsch {p : Prop} (h : p := by first | with_reducible assumption | decide | ((repeat (first | with_reducible exact Ext.refl _ | with_reducible assumption | with_reducible refine Ext.trans ?_ (Ext.push _ _) | with_reducible refine Ext.put ?_ (by first | omega | (simp only [push_size, put_size]; omega)) _ | with_reducible refine Ext.trans ?_ (by assumption))); done) | omega | (apply Ext.szlt; (repeat (first | with_reducible exact Ext.refl _ | with_reducible assumption | with_reducible refine Ext.trans ?_ (Ext.push _ _) | with_reducible refine Ext.put ?_ (by first | omega | (simp only [push_size, put_size]; omega)) _ | with_reducible refine Ext.trans ?_ (by assumption))); done) | exact SliceAt.isOne (by assumption) | (simp only [push_size, put_size, List.length_set, List.length_cons, List.length_nil] <;> omega)) : p := h
end Go.Proofs.Ytopbfmhajbjepaa
