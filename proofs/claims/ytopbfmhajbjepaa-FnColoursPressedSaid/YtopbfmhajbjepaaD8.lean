/- Strings: texts of bytes; digits. -/
import Derived.Test.YtopbfmhajbjepaaD7
import Derived.Test.YtopbfmhajbjepaaC16
namespace Go.Proofs.Ytopbfmhajbjepaa
open Go
set_option linter.unusedSimpArgs false
set_option linter.unusedVariables false

/-- A string of the bytes cs. -/
abbrev tx (cs : List Int) : AV := .str (strN cs)
def Bytes (cs : List Int) : Prop := ∀ x ∈ cs, 0 ≤ x ∧ x < 256
theorem strN_size (cs : List Int) : (strN cs).size = cs.length := by simp [strN, ByteArray.size]
theorem strN_append (a b : List Int) : strN a ++ strN b = strN (a ++ b) := ByteArray.ext (by rw [ByteArray.data_append]; simp [strN])
theorem strN_extract (a : List Int) (l h : Nat) : (strN a).extract l h = strN ((a.take h).drop l) := by
  refine ByteArray.ext ?_
  rw [ByteArray.data_extract]
  simp only [strN, List.extract_toArray, List.extract_eq_take_drop]
  congr 1
  rw [List.map_drop, List.map_take, List.drop_take]
theorem strN_get {a : List Int} {i : Nat} (h : i < a.length) : (strN a)[i]? = some (UInt8.ofNat (a.getD i 0).toNat) := by
  have hs : i < (strN a).size := by rw [strN_size]; exact h
  rw [getElem?_pos (strN a) i hs]
  show some ((strN a).data[i]) = _
  simp [strN, List.getD, h]
theorem Bytes.get {cs : List Int} (h : Bytes cs) {i : Nat} (hi : i < cs.length) : 0 ≤ cs.getD i 0 ∧ cs.getD i 0 < 256 := h _ (getD_mem hi)
theorem Bytes.append {a b : List Int} (ha : Bytes a) (hb : Bytes b) : Bytes (a ++ b) := fun x hx => (List.mem_append.1 hx).elim (ha x) (hb x)
theorem Bytes.take {a : List Int} (ha : Bytes a) (n : Nat) : Bytes (a.take n) := fun x hx => ha x (List.mem_of_mem_take hx)
theorem Bytes.drop {a : List Int} (ha : Bytes a) (n : Nat) : Bytes (a.drop n) := fun x hx => ha x (List.mem_of_mem_drop hx)
theorem str_eq (s : ByteArray) : ∃ cs, s = strN cs ∧ Bytes cs := by
  refine ⟨s.data.toList.map fun b => (b.toNat : Int), ByteArray.ext ?_, ?_⟩
  · simp only [strN, List.map_map]
    rw [show ((fun n : Int => UInt8.ofNat n.toNat) ∘ fun b : UInt8 => (b.toNat : Int)) = id from funext fun b => by simp]
    simp
  · intro x hx
    obtain ⟨b, _, rfl⟩ := List.mem_map.1 hx
    have := b.toNat_lt
    omega

theorem tx_len {H : AH} {cs : List Int} : alen TA H 9 (tx cs) = some (.int .i64 cs.length) := by
  have : alen TA H 9 (tx cs) = some (.int .i64 (strN cs).size) := rfl
  rw [this, strN_size]
theorem tx_ix {cs : List Int} (hb : Bytes cs) {i : Nat} (h : i < cs.length) : aindex TA 9 (tx cs) (.int .i64 i) = some (.int .u8 (cs.getD i 0)) := by
  have : aindex TA 9 (tx cs) (.int .i64 i) = if (0 : Int) ≤ i then (match (strN cs)[(i : Int).toNat]? with | some b => some (.int .u8 b.toNat) | none => none) else none := rfl
  rw [this, if_pos (by omega), show ((i : Int)).toNat = i by omega, strN_get h]
  obtain ⟨h0, h1⟩ := hb.get h
  simp only [Option.some.injEq, AV.int.injEq, true_and]
  rw [UInt8.toNat_ofNat', Nat.mod_eq_of_lt (by omega)]
  omega
theorem tx_add {a b : List Int} (h : a.length + b.length < 9223372036854775807) : abin TA .add 9 (tx a) (tx b) = some (tx (a ++ b)) := by
  have : abin TA .add 9 (tx a) (tx b) = if (((strN a).size + (strN b).size : Nat) : Int) > IntKind.i64.max then none else some (.str (strN a ++ strN b)) := rfl
  rw [this, strN_size, strN_size, strN_append, if_neg (by have : IntKind.i64.max = 9223372036854775807 := rfl; omega)]
theorem tx_eq {a : List Int} : abin TA .eql 9 (tx a) (tx a) = some (.bool true) := by
  have : abin TA .eql 9 (tx a) (tx a) = some (.bool ((strN a).toList == (strN a).toList)) := rfl
  rw [this]; simp
theorem tx_ne {a : List Int} : abin TA .neq 9 (tx a) (tx a) = some (.bool false) := by
  have : abin TA .neq 9 (tx a) (tx a) = some (.bool (!((strN a).toList == (strN a).toList))) := rfl
  rw [this]; simp
theorem tx_pre {H : AH} {a : List Int} {i : Nat} (h : i ≤ a.length) : aslice TA H 9 (tx a) none (some (.int .i64 i)) = some (tx (a.take i)) := by
  have : aslice TA H 9 (tx a) none (some (.int .i64 i)) = match abound (some (.int .i64 i)) (strN a).size (strN a).size with
      | some h => some (.str ((strN a).extract 0 h)) | none => none := by
    show (match abound (some (.int .i64 i)) (strN a).size (strN a).size with | some h => (match abound none 0 h with | some l => some (AV.str ((strN a).extract l h)) | none => none) | none => none) = _
    rfl
  rw [this]
  simp only [abound, strN_size]
  rw [if_pos (by omega)]
  simp only [Int.toNat_natCast]
  rw [strN_extract]; rfl
theorem tx_post {H : AH} {a : List Int} {i : Nat} (h : i ≤ a.length) : aslice TA H 9 (tx a) (some (.int .i64 i)) none = some (tx (a.drop i)) := by
  have : aslice TA H 9 (tx a) (some (.int .i64 i)) none = match abound (some (.int .i64 i)) 0 (strN a).size with
      | some l => some (.str ((strN a).extract l (strN a).size)) | none => none := rfl
  rw [this]
  simp only [abound, strN_size]
  rw [if_pos (by omega)]
  simp only [Int.toNat_natCast]
  rw [strN_extract, List.take_length]

theorem abytes_bytes : ∀ l : List Int, abytes (l.map (AV.int .u8)) = some l
  | [] => rfl
  | x :: l => by simp [abytes, abytes_bytes l]
theorem tx_conv {H H' : AH} {v : AV} {l : List Int} (h : BytesAt H v l) (x : Ext H H') (hn : v ≠ .nilsl) : aconv TA H' 38 9 v = some (tx l) := by
  rcases SliceAt.ext h x with ⟨e, _⟩ | ⟨b, o, n, ro, xs, rfl, h2, h3, h4⟩
  · exact (hn e).elim
  · have : aconv TA H' 38 9 (.sl b o n) = asbytes H' (.sl b o n) := rfl
    rw [this]
    simp only [asbytes, asource, h2]
    rw [if_pos ⟨trivial, h3⟩, h4]
    simp only [abytes_bytes, Option.map_some]
@[go_sem] theorem tx_conv1 {H : AH} {x : Int} : aconv TA (H.push (.cells 1 false [.int .u8 x])) 38 9 (.sl H.size 0 1) = some (tx [x]) :=
  tx_conv (l := [x]) (H := H.push (.cells 1 false [.int .u8 x])) (.inr ⟨_, _, _, _, _, rfl, AH.push_same _ _, by simp, by simp⟩) (Ext.refl _) (by simp)
theorem wrap_byte {x : Int} (h : 0 ≤ x) (h2 : x < 256) : IntKind.u8.wrap x = x := by
  have : IntKind.u8.wrap x = x % 256 := rfl
  rw [this, Int.emod_eq_of_lt h h2]
theorem cv_int_u8 {H : AH} {k : IntKind} {n : Int} : aconv TA H 3 5 (.int k n) = some (.int .u8 (IntKind.u8.wrap n)) := rfl

@[go_sem] theorem bs_byte1 {H : AH} {x : Int} : abuildSlice TA H 38 1 [(0, .int .u8 x)] = some (.sl H.size 0 1, H.push (.cells 1 false [.int .u8 x])) := rfl
@[go_sem] theorem bs_byte0 {H : AH} : abuildSlice TA H 38 0 [] = some (.sl H.size 0 0, H.push (.cells 1 false [])) := rfl
theorem l1Num_ok (x : Int) (H : AH) (h0 : 0 ≤ x) (h9 : x ≤ 9) : E 154 [.int .i64 x] H (Is (tx [48 + x]) H) := by
  have hx : x < 10 := by omega
  refine Ev.enterK (fn := Try.f154) rfl Try.func154 rfl (by kernel_rfl) (by simp [Try.ntmps154]) ?_
  (simp (disch := first | exact dsch | kernel_rfl) only [go_sem, ↓reduceIte, Nat.reduceEqDiff, Nat.reduceLT, Nat.reduceAdd, reduceCtorEq, Int.reduceToNat, Try.ntmps154, Try.results154, hx, cv_int_u8, wrap_byte (x := 48 + x) (by omega) (by omega)] <;> repeat' ((first | (refine AOK_is (by exact l1Num_ok _ _ (by first | assumption | omega) (by first | assumption | omega)) ?_; intro Hc hxc) | refine AK.drawT (by kernel_rfl) ?_ | ((first | refine ABK_mk ?_ ?_ | refine AGK_mk ?_ ?_) <;> intro hb <;> (try simp only [decide_eq_true_eq, decide_eq_false_iff_not, Bool.not_eq_true', Bool.not_eq_false', Bool.not_not] at hb) <;> (try (exfalso; omega)) <;> (try subst hb) <;> try simp only [hb, decide_true, decide_false])) <;> try simp (disch := first | exact dsch | kernel_rfl) only [go_sem, ↓reduceIte, Nat.reduceEqDiff, Nat.reduceLT, Nat.reduceAdd, reduceCtorEq, Int.reduceToNat, Try.ntmps154, Try.results154, hx, cv_int_u8, wrap_byte (x := 48 + x) (by omega) (by omega)]))
  exact Is.mk rfl (by exact xt)

--@CON spec.l1Num: exact l1Num_ok _ _ (by first | assumption | omega) (by first | assumption | omega)

def digB (l : List Int) : Bool := decide (1 ≤ l.length ∧ l.length ≤ 10) && l.all fun x => decide (0 ≤ x ∧ x ≤ 9)
def digT (l : List Int) : List Int := if digB l then l.map fun x => 48 + x else []
theorem isDigits1_ok (x : Int) (H : AH) : E 212 [.int .i64 x] H (Is (.bool (!decide (0 ≤ x ∧ x ≤ 9))) H) := by
  refine Ev.enterK (fn := Try.f212) rfl Try.func212 rfl (by kernel_rfl) (by simp [Try.ntmps212]) ?_
  (simp (disch := first | exact dsch | kernel_rfl) only [go_sem, ↓reduceIte, Nat.reduceEqDiff, Nat.reduceLT, Nat.reduceAdd, reduceCtorEq, Int.reduceToNat, Try.ntmps212, Try.results212] <;> repeat' ((first | (refine AOK_is (by exact in_ok _ _ _ _) ?_; intro Hc hxc) | refine AK.drawT (by kernel_rfl) ?_ | ((first | refine ABK_mk ?_ ?_ | refine AGK_mk ?_ ?_) <;> intro hb <;> (try simp only [decide_eq_true_eq, decide_eq_false_iff_not, Bool.not_eq_true', Bool.not_eq_false', Bool.not_not] at hb) <;> (try (exfalso; omega)) <;> (try subst hb) <;> try simp only [hb, decide_true, decide_false])) <;> try simp (disch := first | exact dsch | kernel_rfl) only [go_sem, ↓reduceIte, Nat.reduceEqDiff, Nat.reduceLT, Nat.reduceAdd, reduceCtorEq, Int.reduceToNat, Try.ntmps212, Try.results212]))
  exact Is.mk rfl (by exact xt)
theorem isDigits_ok (l : List Int) (s : AV) (H : AH) (hs : IntsAt H s l) (hl : l.length < 1000000) : E 152 [s] H (Is (.bool (digB l)) H) := by
  refine Ev.enterK (fn := Try.f152) rfl Try.func152 rfl (by kernel_rfl) (by simp [Try.ntmps152]) ?_
  (simp (disch := first | exact dsch | kernel_rfl) only [go_sem, ↓reduceIte, Nat.reduceEqDiff, Nat.reduceLT, Nat.reduceAdd, reduceCtorEq, Int.reduceToNat, Try.ntmps152, Try.results152, hs.len] <;> repeat' ((first | (refine AOK_is (by exact in_ok _ _ _ _) ?_; intro Hc hxc) | refine AK.drawT (by kernel_rfl) ?_ | ((first | refine ABK_mk ?_ ?_ | refine AGK_mk ?_ ?_) <;> intro hb <;> (try simp only [decide_eq_true_eq, decide_eq_false_iff_not, Bool.not_eq_true', Bool.not_eq_false', Bool.not_not] at hb) <;> (try (exfalso; omega)) <;> (try subst hb) <;> try simp only [hb, decide_true, decide_false])) <;> try simp (disch := first | exact dsch | kernel_rfl) only [go_sem, ↓reduceIte, Nat.reduceEqDiff, Nat.reduceLT, Nat.reduceAdd, reduceCtorEq, Int.reduceToNat, Try.ntmps152, Try.results152, hs.len]))
  · refine AOK_is (containsFunc_ok l s _ [] (fun x => !decide (0 ≤ x ∧ x ≤ 9)) _ (hs.ext (by exact xt)) (by omega) fun x _ H1 x1 => isDigits1_ok x H1) ?_
    intro H1 x1
    (simp (disch := first | exact dsch | kernel_rfl) only [go_sem, ↓reduceIte, Nat.reduceEqDiff, Nat.reduceLT, Nat.reduceAdd, reduceCtorEq, Int.reduceToNat, Try.ntmps152, Try.results152] <;> repeat' ((first | (refine AOK_is (by exact in_ok _ _ _ _) ?_; intro Hc hxc) | refine AK.drawT (by kernel_rfl) ?_ | ((first | refine ABK_mk ?_ ?_ | refine AGK_mk ?_ ?_) <;> intro hb <;> (try simp only [decide_eq_true_eq, decide_eq_false_iff_not, Bool.not_eq_true', Bool.not_eq_false', Bool.not_not] at hb) <;> (try (exfalso; omega)) <;> (try subst hb) <;> try simp only [hb, decide_true, decide_false])) <;> try simp (disch := first | exact dsch | kernel_rfl) only [go_sem, ↓reduceIte, Nat.reduceEqDiff, Nat.reduceLT, Nat.reduceAdd, reduceCtorEq, Int.reduceToNat, Try.ntmps152, Try.results152]))
    refine Is.mk ?_ (by exact xt)
    have h1 : decide (1 ≤ l.length ∧ l.length ≤ 10) = true := decide_eq_true (by omega)
    rw [digB, h1, Bool.true_and, List.all_eq_not_any_not]
  · refine Is.mk ?_ (by exact xt)
    have h1 : decide (1 ≤ l.length ∧ l.length ≤ 10) = false := decide_eq_false (by omega)
    rw [digB, h1]; rfl
--@CON impl.isDigits: exact isDigits_ok _ _ _ (by first | assumption | (refine SliceAt.ext (by assumption) ?_; exact xt)) (by first | assumption | omega)

theorem digB_get {l : List Int} (h : digB l = true) : 1 ≤ l.length ∧ l.length ≤ 10 ∧ ∀ i < l.length, 0 ≤ l.getD i 0 ∧ l.getD i 0 ≤ 9 := by
  simp only [digB, Bool.and_eq_true, decide_eq_true_eq, List.all_eq_true] at h
  exact ⟨h.1.1, h.1.2, fun i hi => h.2 _ (getD_mem hi)⟩
theorem take_succ_getD {l : List Int} {i : Nat} (h : i < l.length) (f : Int → Int) : (l.take (i + 1)).map f = (l.take i).map f ++ [f (l.getD i 0)] := by
  rw [List.take_add_one, List.map_append]; simp [List.getD, h]
theorem OwnC.app_byte {H0 H H1 : AH} {v : AV} {n : Int} {cs : List AV} (h : OwnC H0 H v cs) (hc : cs.all AV.one = true) (hl : cs.length < 1000000) (x : Ext H H1) :
    aappend2 TA (H1.push (.cells 1 false [.int .u8 n])) 38 38 v (.sl H1.size 0 1) = some (.sl ((H1.push (.cells 1 false [.int .u8 n])).sans v).size 0 (cs.length + 1), ((H1.push (.cells 1 false [.int .u8 n])).sans v).push (.cells 1 false (cs ++ [.int .u8 n]))) :=
  h.app' x rfl hc (by omega) (t := 38) rfl rfl (te := 5) rfl rfl (by decide)
theorem bytes_one (l : List Int) : (l.map (AV.int .u8)).all AV.one = true := by simp [AV.one]
theorem implColoursText_ok (l : List Int) (s : AV) (H : AH) (hs : IntsAt H s l) (hl : l.length < 1000000) : E 37 [s] H (Is (.tup [tx (digT l), .bool (digB l)]) H) := by
  refine Ev.enterK (fn := Try.f37) rfl Try.func37 rfl (by kernel_rfl) (by simp [Try.ntmps37]) ?_
  cases hd : digB l
  · (simp (disch := first | exact dsch | kernel_rfl) only [go_sem, ↓reduceIte, Nat.reduceEqDiff, Nat.reduceLT, Nat.reduceAdd, reduceCtorEq, Int.reduceToNat, Try.ntmps37, Try.results37, hd] <;> repeat' ((first | (refine AOK_is (by exact isDigits_ok _ _ _ (by first | assumption | (refine SliceAt.ext (by assumption) ?_; exact xt)) (by first | assumption | omega)) ?_; intro Hc hxc) | refine AK.drawT (by kernel_rfl) ?_ | ((first | refine ABK_mk ?_ ?_ | refine AGK_mk ?_ ?_) <;> intro hb <;> (try simp only [decide_eq_true_eq, decide_eq_false_iff_not, Bool.not_eq_true', Bool.not_eq_false', Bool.not_not] at hb) <;> (try (exfalso; omega)) <;> (try subst hb) <;> try simp only [hb, decide_true, decide_false])) <;> try simp (disch := first | exact dsch | kernel_rfl) only [go_sem, ↓reduceIte, Nat.reduceEqDiff, Nat.reduceLT, Nat.reduceAdd, reduceCtorEq, Int.reduceToNat, Try.ntmps37, Try.results37, hd]))
    refine Is.mk ?_ (by exact xt)
    simp only [digT, hd]; rfl
  · obtain ⟨h1, h2, h9⟩ := digB_get hd
    simp (disch := first | exact dsch | kernel_rfl) only [go_sem, ↓reduceIte, Nat.reduceEqDiff, Nat.reduceLT, Nat.reduceAdd, reduceCtorEq, Int.reduceToNat, Try.ntmps37, Try.results37]
    refine AOK_is (isDigits_ok l s H hs hl) ?_
    intro Hc hxc
    simp (disch := first | exact dsch | kernel_rfl) only [go_sem, ↓reduceIte, Nat.reduceEqDiff, Nat.reduceLT, Nat.reduceAdd, reduceCtorEq, Int.reduceToNat, Try.ntmps37, Try.results37, hd, hs.len]
    refine (AK.count 13 [4, 6, 13, 14, 15, 16, 17, 18, 19, 20, 21, 22, 23] (by kernel_rfl) 0 l.length (fun i tm H' => ∃ v, tm 4 = v ∧ v ≠ .nilsl ∧ OwnC H H' v (((l.take i).map fun x => 48 + x).map (AV.int .u8)) ∧ Ext H H') (by rfl) (by omega) ⟨.sl Hc.size 0 0, by simp [go_sem], by simp, OwnC.new hxc.size [], by exact xt⟩ ?_)
    rintro i tm H' K g1 g2 fr hq ⟨v, h4, hn, ho, hx2⟩ hK
    by_cases hi : i < l.length
    · have hi' : (i : Int) < (l.length : Int) := by omega
      obtain ⟨g0, g9⟩ := h9 i hi
      have hlen : (((l.take i).map fun x => 48 + x).map (AV.int .u8)).length < 1000000 := by simp; omega
      have ap := ho.app_byte (n := 48 + l.getD i 0) (bytes_one _) hlen (Ext.refl H')
      have ow := ho.next (y := .int .u8 (48 + l.getD i 0)) (Ext.refl H') hx2
      have xx := (Ext.sans ho (hx2.trans (Ext.push H' (.cells 1 false [.int .u8 (48 + l.getD i 0)])))).trans (Ext.push _ (.cells 1 false ((((l.take i).map fun x => 48 + x).map (AV.int .u8)) ++ [.int .u8 (48 + l.getD i 0)])))
      simp (disch := first | exact dsch | kernel_rfl) only [go_sem, ↓reduceIte, Nat.reduceEqDiff, Nat.reduceLT, Nat.reduceAdd, reduceCtorEq, Int.reduceToNat, Try.ntmps37, Try.results37, fr, hq, h4, hi', hs.ix, hs.ld, cv_int_u8, wrap_byte (x := 48 + l.getD i 0) (by omega) (by omega), ap]
      refine hK _ _ hi (by rfl) ⟨_, rfl, by simp [go_sem], ?_, xx⟩
      rw [take_succ_getD hi, List.map_append]; exact ow
    · have hi' : ¬ (i : Int) < (l.length : Int) := by omega
      have ei : i = l.length := by omega
      rw [ei, List.take_length] at ho
      have cv := tx_conv (l := l.map fun x => 48 + x) ho.slice (Ext.refl H') hn
      simp (disch := first | exact dsch | kernel_rfl) only [go_sem, ↓reduceIte, Nat.reduceEqDiff, Nat.reduceLT, Nat.reduceAdd, reduceCtorEq, Int.reduceToNat, Try.ntmps37, Try.results37, fr, hq, h4, hi', hs.len, cv]
      exact Is.mk (by simp only [digT, hd, if_true]) hx2

end Go.Proofs.Ytopbfmhajbjepaa
