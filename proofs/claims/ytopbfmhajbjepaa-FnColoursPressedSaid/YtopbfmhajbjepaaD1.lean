/- Contracts: the cursor that the drawn inputs come from. -/
import Derived.Test.YtopbfmhajbjepaaC15
namespace Go.Proofs.Ytopbfmhajbjepaa
open Go
set_option linter.unusedSimpArgs false
set_option linter.unusedVariables false

/-- Memory without one block. -/
def AH.hid (H : AH) (b : Nat) : AH := H.put b .dead
/-- Nothing old turns but one block. -/
def But (b : Nat) (H H' : AH) : Prop := Ext (H.hid b) (H'.hid b)
theorem But.refl (b : Nat) (H : AH) : But b H H := Ext.refl _
theorem But.trans {b : Nat} {H H1 H2 : AH} (h : But b H H1) (k : But b H1 H2) : But b H H2 := Ext.trans h k
theorem Ext.but {H H' : AH} (x : Ext H H') (b : Nat) : But b H H' := x.sans2 (v := .sl b 0 0)
theorem But.put (b : Nat) (H : AH) (x : ABlk) : But b H (H.put b x) := by
  refine ⟨Nat.le_refl _, fun c hc => ?_⟩
  simp only [AH.hid, put_blk, put_size]
  split <;> rfl
theorem But.size {b : Nat} {H H' : AH} (h : But b H H') : H.size ≤ H'.size := (show Ext (H.hid b) (H'.hid b) from h).size
theorem But.blk {b c : Nat} {H H' : AH} (h : But b H H') (hc : c ≠ b) (hl : c < H.size) : H'.blk c = H.blk c := by
  have := Ext.quiet h c hl
  simpa only [AH.hid, put_blk_ne hc] using this
theorem But.cells {b c e : Nat} {ro : Bool} {xs : List AV} {H H' : AH} (h : But b H H') (hc : c ≠ b) (hb : H.blk c = .cells e ro xs) : H'.blk c = .cells e ro xs := by rw [h.blk hc (AH.cells_lt hb), hb]
theorem But.slice {b e : Nat} {H H' : AH} {v : AV} {cs : List AV} (h : But b H H') (hv : v = .nilsl ∨ v.sb ≠ b) (hs : SliceAt H v e cs) : SliceAt H' v e cs := by
  rcases hs with hs | ⟨c, o, n, ro, xs, rfl, h2, h3, h4⟩
  · exact .inl hs
  · refine .inr ⟨c, o, n, ro, xs, rfl, h.cells ?_ h2, h3, h4⟩
    rcases hv with hv | hv
    · cases hv
    · exact hv
theorem But.row {b c : Nat} {H H' : AH} {l : List Nat} (h : But b H H') (hc : c ≠ b) (hr : RowAt H c l) : RowAt H' c l := h.cells hc hr
theorem But.ext {b : Nat} {H H' : AH} (h : But b H H') (hb : H.size ≤ b) : Ext H H' := by
  refine ⟨h.size, fun c hc => h.blk (by omega) hc⟩
/-- A cursor's block was made and used: what is older is as it was. -/
theorem But.new {b : Nat} {H0 H H' : AH} (x : Ext H0 H) (hb : H0.size ≤ b) (h : But b H H') : Ext H0 H' := by
  refine ⟨Nat.le_trans x.size h.size, fun c hc => ?_⟩
  rw [h.blk (by omega) (Nat.lt_of_lt_of_le hc x.size), x.quiet c hc]

abbrev BytesAt (H : AH) (v : AV) (l : List Int) : Prop := SliceAt H v 1 (l.map (AV.int .u8))
def curB (v : AV) (a s : Int) : ABlk := .cells 3 false [v, .int .i64 a, .int .u64 s]
/-- A cursor: the bytes, how far it has come (at most A), the seed. -/
structure CurV (H : AH) (b : Nat) (v : AV) (l : List Int) (a : Nat) (s : Int) : Prop where
  blk : H.blk b = curB v a s
  code : BytesAt H v l
  byte : ∀ x ∈ l, 0 ≤ x ∧ x < 256
  len : l.length < 4611686018427387904
  older : v = .nilsl ∨ v.sb < b
def Cur (H : AH) (b A : Nat) : Prop := ∃ v l a s, CurV H b v l a s ∧ a ≤ A
theorem CurV.away {H : AH} {b : Nat} {v : AV} {l : List Int} {a : Nat} {s : Int} (h : CurV H b v l a s) : v = .nilsl ∨ v.sb ≠ b := h.older.imp id fun h => by omega
theorem Cur.lt {H : AH} {b A : Nat} (h : Cur H b A) : b < H.size := by obtain ⟨v, l, a, s, h, _⟩ := h; exact AH.cells_lt h.blk
theorem Cur.le {H : AH} {b A B : Nat} (h : Cur H b A) (k : A ≤ B) : Cur H b B := by obtain ⟨v, l, a, s, h, q⟩ := h; exact ⟨v, l, a, s, h, by omega⟩
theorem CurV.ext {H H' : AH} {b : Nat} {v : AV} {l : List Int} {a : Nat} {s : Int} (h : CurV H b v l a s) (x : Ext H H') : CurV H' b v l a s := ⟨x.cells h.blk, h.code.ext x, h.byte, h.len, h.older⟩
theorem Cur.ext {H H' : AH} {b A : Nat} (h : Cur H b A) (x : Ext H H') : Cur H' b A := by obtain ⟨v, l, a, s, h, q⟩ := h; exact ⟨v, l, a, s, h.ext x, q⟩
theorem CurV.put {H : AH} {b : Nat} {v : AV} {l : List Int} {a a' : Nat} {s s' : Int} (h : CurV H b v l a s) : CurV (H.put b (curB v a' s')) b v l a' s' :=
  ⟨put_blk_same (AH.cells_lt h.blk), (But.put b H _).slice h.away h.code, h.byte, h.len, h.older⟩

theorem Cur.put {H : AH} {b A c : Nat} (h : Cur H b A) (hc : b < c) (x : ABlk) : Cur (H.put c x) b A := by
  obtain ⟨v, l, a, s, h, ha⟩ := h
  refine ⟨v, l, a, s, ⟨by rw [put_blk_ne (by omega)]; exact h.blk, ?_, h.byte, h.len, h.older⟩, ha⟩
  exact (But.put c H x).slice (h.older.imp id fun h => by omega) h.code
theorem But.putnew {b c : Nat} {H H1 : AH} (h : But b H H1) (hc : H.size ≤ c) (x : ABlk) : But b H (H1.put c x) := by
  refine ⟨h.size, fun a ha => ?_⟩
  have ha : a < H.size := ha
  have := Ext.quiet h a ha
  simp only [AH.hid] at this ⊢
  by_cases e : a = b
  · subst e
    have e1 : (H.put a ABlk.dead).blk a = .dead := put_blk_same ha
    rw [e1, put_blk_same (by rw [put_size]; have := But.size h; omega)]
  · rw [put_blk_ne e] at this ⊢
    rw [put_blk_ne (by omega), this]
@[go_sem] theorem cur_f0 {b o : Nat} : afieldAddr TA 99 (.ptr b o) 0 = some (.ptr b o) := rfl
@[go_sem] theorem cur_f1 {b o : Nat} : afieldAddr TA 99 (.ptr b o) 1 = some (.ptr b (o + 1)) := rfl
@[go_sem] theorem cur_f2 {b o : Nat} : afieldAddr TA 99 (.ptr b o) 2 = some (.ptr b (o + 2)) := rfl
section
variable {H H' : AH} {b : Nat} {v : AV} {l : List Int} {a : Nat} {s : Int}
theorem CurV.ld0 (h : CurV H b v l a s) : aload1 TA H 38 (.ptr b 0) = some (v, H) := aload_cell (t := 38) rfl rfl h.blk rfl
theorem CurV.ld1 (h : CurV H b v l a s) : aload1 TA H 3 (.ptr b 1) = some (.int .i64 a, H) := aload_cell (t := 3) rfl rfl h.blk rfl
theorem CurV.ld2 (h : CurV H b v l a s) : aload1 TA H 97 (.ptr b 2) = some (.int .u64 s, H) := aload_cell (t := 97) rfl rfl h.blk rfl
theorem CurV.st1 (h : CurV H b v l a s) {x : Int} : astore1 TA H 3 (.ptr b 1) (.int .i64 x) = some (.undef, H.put b (curB v x s)) := astore_cell (t := 3) rfl rfl rfl h.blk (by simp) rfl
theorem CurV.st2 (h : CurV H b v l a s) {x : Int} : astore1 TA H 97 (.ptr b 2) (.int .u64 x) = some (.undef, H.put b (curB v a x)) := astore_cell (t := 97) rfl rfl rfl h.blk (by simp) rfl
theorem BytesAt.len (h : BytesAt H v l) (x : Ext H H') : alen TA H' 38 v = some (.int .i64 l.length) := by
  have := SliceAt.len h rfl (t := 38) rfl rfl x; simpa using this
theorem BytesAt.ix (h : BytesAt H v l) {i : Int} (h0 : 0 ≤ i) (hi : i < l.length) : aindexAddr TA 38 v (.int .i64 i) = some (.ptr v.sb (v.so + i.toNat)) :=
  SliceAt.ix h (t := 38) (te := 5) rfl rfl rfl rfl h0 (by simpa using hi)
theorem BytesAt.ld (h : BytesAt H v l) (x : Ext H H') {i : Nat} (hi : i < l.length) : aload1 TA H' 5 (.ptr v.sb (v.so + i)) = some (.int .u8 (l.getD i 0), H') := by
  have := SliceAt.ld h (te := 5) (de := td5) rfl rfl x (i := i) (by simpa using hi)
  rw [this]; simp [List.getD, hi]
end

@[go_sem] theorem cv_int_u64 {H : AH} {k : IntKind} {n : Int} : aconv TA H 3 97 (.int k n) = some (.int .u64 (IntKind.u64.wrap n)) := rfl
@[go_sem] theorem cv_u64_int {H : AH} {k : IntKind} {n : Int} : aconv TA H 97 3 (.int k n) = some (.int .i64 (IntKind.i64.wrap n)) := rfl
theorem and255 (x : Int) : ∃ r : Nat, r < 256 ∧ IntKind.i64.wrap (iand .u64 x 255) = (r : Int) := by
  have h : (BitVec.ofInt 64 x &&& BitVec.ofInt 64 255).toNat ≤ 255 := by
    rw [BitVec.toNat_and]
    exact Nat.and_le_right
  refine ⟨(BitVec.ofInt 64 x &&& BitVec.ofInt 64 255).toNat, by omega, ?_⟩
  have e : iand .u64 x 255 = ((BitVec.ofInt 64 x &&& BitVec.ofInt 64 255).toNat : Int) := by
    unfold iand
    exact wrap_u64 (by have := h; show (BitVec.ofInt 64 x &&& BitVec.ofInt 64 255).toNat < _; omega)
  rw [e]
  exact wrap64_nat (by omega)

/-- What a draw does: the cursor goes on by at most k, nothing else that is old turns. -/
def Draws (b A k : Nat) (H : AH) (R : AV → AH → Prop) : AV → AH → Prop := fun v H' => But b H H' ∧ Cur H' b (A + k) ∧ R v H'

theorem next_ok (b A : Nat) (H : AH) (hc : Cur H b A) (hA : A < 4611686018427387904) : E 213 [.ptr b 0] H (Draws b A 1 H fun v _ => ∃ x : Nat, v = .int .i64 x ∧ x < 256) := by
  obtain ⟨v, l, a, s, h, ha⟩ := hc
  have hl := h.len
  refine Ev.enterK (fn := Try.f213) rfl Try.func213 rfl (by kernel_rfl) (by simp [Try.ntmps213]) ?_
  have bytes : ∀ i < l.length, ∃ y : Nat, l.getD i 0 = (y : Int) ∧ y < 256 := fun i hi => by
    have := h.byte _ (getD_mem hi)
    exact ⟨(l.getD i 0).toNat, by omega, by omega⟩
  have e1 : CurV (H.put b (curB v ((a : Int) + 1) s)) b v l (a + 1) s := h.put
  have e2 : ∀ s2, CurV ((H.put b (curB v ((a : Int) + 1) s)).put b (curB v ((a + 1 : Nat) : Int) s2)) b v l (a + 1) s2 := fun s2 => e1.put
  have bt : ∀ s2, But b H ((H.put b (curB v ((a : Int) + 1) s)).put b (curB v ((a + 1 : Nat) : Int) s2)) := fun s2 => (But.put b H _).trans (But.put b _ _)
  by_cases hlt : a < l.length
  · obtain ⟨y, hy, hy2⟩ := bytes a hlt
    have hlt' : (a : Int) < (l.length : Int) := by omega
    have hle' : ((a + 1 : Nat) : Int) ≤ (l.length : Int) := by omega
    (simp (disch := first | exact dsch | kernel_rfl) only [go_sem, ↓reduceIte, Nat.reduceEqDiff, Nat.reduceLT, Nat.reduceAdd, reduceCtorEq, Int.reduceToNat, Try.ntmps213, Try.results213, h.ld0, h.ld1, h.ld2, BytesAt.len h.code, BytesAt.ix h.code, BytesAt.ld h.code, hlt', h.st1, e1.ld0, e1.ld1, e1.ld2, e1.st1, e1.st2, hy, (e2 _).ld0, (e2 _).ld1, (e2 _).ld2, BytesAt.len (e2 _).code, hle'] <;> repeat' ((first | refine AK.drawT (by kernel_rfl) ?_ | ((first | refine ABK_mk ?_ ?_ | refine AGK_mk ?_ ?_) <;> intro hb <;> (try simp only [decide_eq_true_eq, decide_eq_false_iff_not, Bool.not_eq_true', Bool.not_eq_false', Bool.not_not] at hb) <;> (try (exfalso; omega)) <;> (try subst hb) <;> try simp only [hb, decide_true, decide_false])) <;> try simp (disch := first | exact dsch | kernel_rfl) only [go_sem, ↓reduceIte, Nat.reduceEqDiff, Nat.reduceLT, Nat.reduceAdd, reduceCtorEq, Int.reduceToNat, Try.ntmps213, Try.results213, h.ld0, h.ld1, h.ld2, BytesAt.len h.code, BytesAt.ix h.code, BytesAt.ld h.code, hlt', h.st1, e1.ld0, e1.ld1, e1.ld2, e1.st1, e1.st2, hy, (e2 _).ld0, (e2 _).ld1, (e2 _).ld2, BytesAt.len (e2 _).code, hle']))
    exact ⟨bt _, ⟨v, l, a + 1, _, e2 _, by omega⟩, y, rfl, hy2⟩
  · have hlt' : ¬ (a : Int) < (l.length : Int) := by omega
    have hle' : ¬ ((a + 1 : Nat) : Int) ≤ (l.length : Int) := by omega
    (simp (disch := first | exact dsch | kernel_rfl) only [go_sem, ↓reduceIte, Nat.reduceEqDiff, Nat.reduceLT, Nat.reduceAdd, reduceCtorEq, Int.reduceToNat, Try.ntmps213, Try.results213, h.ld0, h.ld1, h.ld2, BytesAt.len h.code, hlt', h.st1, e1.ld0, e1.ld1, e1.ld2, e1.st1, e1.st2, (e2 _).ld0, (e2 _).ld1, (e2 _).ld2, BytesAt.len (e2 _).code, hle'] <;> repeat' ((first | refine AK.drawT (by kernel_rfl) ?_ | ((first | refine ABK_mk ?_ ?_ | refine AGK_mk ?_ ?_) <;> intro hb <;> (try simp only [decide_eq_true_eq, decide_eq_false_iff_not, Bool.not_eq_true', Bool.not_eq_false', Bool.not_not] at hb) <;> (try (exfalso; omega)) <;> (try subst hb) <;> try simp only [hb, decide_true, decide_false])) <;> try simp (disch := first | exact dsch | kernel_rfl) only [go_sem, ↓reduceIte, Nat.reduceEqDiff, Nat.reduceLT, Nat.reduceAdd, reduceCtorEq, Int.reduceToNat, Try.ntmps213, Try.results213, h.ld0, h.ld1, h.ld2, BytesAt.len h.code, hlt', h.st1, e1.ld0, e1.ld1, e1.ld2, e1.st1, e1.st2, (e2 _).ld0, (e2 _).ld1, (e2 _).ld2, BytesAt.len (e2 _).code, hle']))
    refine ⟨bt _, ⟨v, l, a + 1, _, e2 _, by omega⟩, ?_⟩
    generalize ishr IntKind.u64 _ 40 = z
    obtain ⟨r, hr, e⟩ := and255 z
    exact ⟨r, by rw [e], hr⟩

theorem pick_ok (b A : Nat) (n : Int) (H : AH) (hc : Cur H b A) (hA : A < 4611686018427387000) : E 158 [.ptr b 0, .int .i64 n] H (Draws b A 2 H fun v _ => ∃ x : Nat, v = .int .i64 x ∧ ((x : Int) < n ∨ x = 0) ∧ (n ≤ 1 → x = 0)) := by
  refine Ev.enterK (fn := Try.f158) rfl Try.func158 rfl (by kernel_rfl) (by simp [Try.ntmps158]) ?_
  by_cases hn : n ≤ 1
  · (simp (disch := first | exact dsch | kernel_rfl) only [go_sem, ↓reduceIte, Nat.reduceEqDiff, Nat.reduceLT, Nat.reduceAdd, reduceCtorEq, Int.reduceToNat, Try.ntmps158, Try.results158, hn] <;> repeat' ((first | refine AK.drawT (by kernel_rfl) ?_ | ((first | refine ABK_mk ?_ ?_ | refine AGK_mk ?_ ?_) <;> intro hb <;> (try simp only [decide_eq_true_eq, decide_eq_false_iff_not, Bool.not_eq_true', Bool.not_eq_false', Bool.not_not] at hb) <;> (try (exfalso; omega)) <;> (try subst hb) <;> try simp only [hb, decide_true, decide_false])) <;> try simp (disch := first | exact dsch | kernel_rfl) only [go_sem, ↓reduceIte, Nat.reduceEqDiff, Nat.reduceLT, Nat.reduceAdd, reduceCtorEq, Int.reduceToNat, Try.ntmps158, Try.results158, hn]))
    exact ⟨But.refl _ _, hc.le (by omega), 0, rfl, .inr rfl, fun _ => rfl⟩
  · (simp (disch := first | exact dsch | kernel_rfl) only [go_sem, ↓reduceIte, Nat.reduceEqDiff, Nat.reduceLT, Nat.reduceAdd, reduceCtorEq, Int.reduceToNat, Try.ntmps158, Try.results158, hn] <;> repeat' ((first | refine AK.drawT (by kernel_rfl) ?_ | ((first | refine ABK_mk ?_ ?_ | refine AGK_mk ?_ ?_) <;> intro hb <;> (try simp only [decide_eq_true_eq, decide_eq_false_iff_not, Bool.not_eq_true', Bool.not_eq_false', Bool.not_not] at hb) <;> (try (exfalso; omega)) <;> (try subst hb) <;> try simp only [hb, decide_true, decide_false])) <;> try simp (disch := first | exact dsch | kernel_rfl) only [go_sem, ↓reduceIte, Nat.reduceEqDiff, Nat.reduceLT, Nat.reduceAdd, reduceCtorEq, Int.reduceToNat, Try.ntmps158, Try.results158, hn]))
    refine AOK_calls (next_ok b A H hc (by omega)) ?_
    rintro _ H1 ⟨b1, c1, x, rfl, hx⟩
    have hn0 : n ≠ 0 := by omega
    have m1 : ∀ y : Nat, ∃ z : Nat, (y : Int).tmod n = (z : Int) ∧ (z : Int) < n := fun y => by
      have e1 : (y : Int).tmod n = (y : Int) % n := Int.tmod_eq_emod_of_nonneg (by omega)
      have e2 := Int.emod_nonneg (y : Int) hn0
      have e3 := Int.emod_lt_of_pos (y : Int) (show 0 < n by omega)
      exact ⟨((y : Int) % n).toNat, by rw [e1]; omega, by omega⟩
    (simp (disch := first | exact dsch | kernel_rfl) only [go_sem, ↓reduceIte, Nat.reduceEqDiff, Nat.reduceLT, Nat.reduceAdd, reduceCtorEq, Int.reduceToNat, Try.ntmps158, Try.results158] <;> repeat' ((first | refine AK.drawT (by kernel_rfl) ?_ | ((first | refine ABK_mk ?_ ?_ | refine AGK_mk ?_ ?_) <;> intro hb <;> (try simp only [decide_eq_true_eq, decide_eq_false_iff_not, Bool.not_eq_true', Bool.not_eq_false', Bool.not_not] at hb) <;> (try (exfalso; omega)) <;> (try subst hb) <;> try simp only [hb, decide_true, decide_false])) <;> try simp (disch := first | exact dsch | kernel_rfl) only [go_sem, ↓reduceIte, Nat.reduceEqDiff, Nat.reduceLT, Nat.reduceAdd, reduceCtorEq, Int.reduceToNat, Try.ntmps158, Try.results158]))
    · refine AOK_calls (next_ok b (A + 1) H1 c1 (by omega)) ?_
      rintro _ H2 ⟨b2, c2, y, rfl, hy⟩
      have hxy : (x : Int) * 256 + (y : Int) = ((x * 256 + y : Nat) : Int) := by omega
      (simp (disch := first | exact dsch | kernel_rfl) only [go_sem, ↓reduceIte, Nat.reduceEqDiff, Nat.reduceLT, Nat.reduceAdd, reduceCtorEq, Int.reduceToNat, Try.ntmps158, Try.results158, hxy] <;> repeat' ((first | refine AK.drawT (by kernel_rfl) ?_ | ((first | refine ABK_mk ?_ ?_ | refine AGK_mk ?_ ?_) <;> intro hb <;> (try simp only [decide_eq_true_eq, decide_eq_false_iff_not, Bool.not_eq_true', Bool.not_eq_false', Bool.not_not] at hb) <;> (try (exfalso; omega)) <;> (try subst hb) <;> try simp only [hb, decide_true, decide_false])) <;> try simp (disch := first | exact dsch | kernel_rfl) only [go_sem, ↓reduceIte, Nat.reduceEqDiff, Nat.reduceLT, Nat.reduceAdd, reduceCtorEq, Int.reduceToNat, Try.ntmps158, Try.results158, hxy]))
      obtain ⟨z, hz, hz2⟩ := m1 (x * 256 + y)
      rw [hz]
      exact ⟨b1.trans b2, c2, z, rfl, .inl hz2, fun h => h.elim⟩
    · obtain ⟨z, hz, hz2⟩ := m1 x
      rw [hz]
      exact ⟨b1, c1.le (by omega), z, rfl, .inl hz2, fun h => h.elim⟩

theorem one_ok (b A : Nat) (n : Int) (H : AH) (hc : Cur H b A) (hA : A < 4611686018427387000) : E 151 [.ptr b 0, .int .i64 n] H (Draws b A 2 H fun v _ => ∃ x : Bool, v = .bool x) := by
  refine Ev.enterK (fn := Try.f151) rfl Try.func151 rfl (by kernel_rfl) (by simp [Try.ntmps151]) ?_
  (simp (disch := first | exact dsch | kernel_rfl) only [go_sem, ↓reduceIte, Nat.reduceEqDiff, Nat.reduceLT, Nat.reduceAdd, reduceCtorEq, Int.reduceToNat, Try.ntmps151, Try.results151] <;> repeat' ((first | refine AK.drawT (by kernel_rfl) ?_ | ((first | refine ABK_mk ?_ ?_ | refine AGK_mk ?_ ?_) <;> intro hb <;> (try simp only [decide_eq_true_eq, decide_eq_false_iff_not, Bool.not_eq_true', Bool.not_eq_false', Bool.not_not] at hb) <;> (try (exfalso; omega)) <;> (try subst hb) <;> try simp only [hb, decide_true, decide_false])) <;> try simp (disch := first | exact dsch | kernel_rfl) only [go_sem, ↓reduceIte, Nat.reduceEqDiff, Nat.reduceLT, Nat.reduceAdd, reduceCtorEq, Int.reduceToNat, Try.ntmps151, Try.results151]))
  refine AOK_calls (pick_ok b A n H hc hA) ?_
  rintro _ H1 ⟨b1, c1, x, rfl, _⟩
  (simp (disch := first | exact dsch | kernel_rfl) only [go_sem, ↓reduceIte, Nat.reduceEqDiff, Nat.reduceLT, Nat.reduceAdd, reduceCtorEq, Int.reduceToNat, Try.ntmps151, Try.results151] <;> repeat' ((first | refine AK.drawT (by kernel_rfl) ?_ | ((first | refine ABK_mk ?_ ?_ | refine AGK_mk ?_ ?_) <;> intro hb <;> (try simp only [decide_eq_true_eq, decide_eq_false_iff_not, Bool.not_eq_true', Bool.not_eq_false', Bool.not_not] at hb) <;> (try (exfalso; omega)) <;> (try subst hb) <;> try simp only [hb, decide_true, decide_false])) <;> try simp (disch := first | exact dsch | kernel_rfl) only [go_sem, ↓reduceIte, Nat.reduceEqDiff, Nat.reduceLT, Nat.reduceAdd, reduceCtorEq, Int.reduceToNat, Try.ntmps151, Try.results151]))
  exact ⟨b1, c1, _, rfl⟩

theorem among_ok (b A : Nat) (l : List Int) (s : AV) (H : AH) (hc : Cur H b A) (hA : A < 4611686018427387000) (hs : IntsAt H s l) (ha : s = .nilsl ∨ s.sb ≠ b) (hl : 0 < l.length) (hl2 : l.length < 1000000) :
    E 150 [.ptr b 0, s] H (Draws b A 2 H fun v _ => ∃ x : Int, v = .int .i64 x ∧ x ∈ l) := by
  refine Ev.enterK (fn := Try.f150) rfl Try.func150 rfl (by kernel_rfl) (by simp [Try.ntmps150]) ?_
  (simp (disch := first | exact dsch | kernel_rfl) only [go_sem, ↓reduceIte, Nat.reduceEqDiff, Nat.reduceLT, Nat.reduceAdd, reduceCtorEq, Int.reduceToNat, Try.ntmps150, Try.results150, hs.len] <;> repeat' ((first | refine AK.drawT (by kernel_rfl) ?_ | ((first | refine ABK_mk ?_ ?_ | refine AGK_mk ?_ ?_) <;> intro hb <;> (try simp only [decide_eq_true_eq, decide_eq_false_iff_not, Bool.not_eq_true', Bool.not_eq_false', Bool.not_not] at hb) <;> (try (exfalso; omega)) <;> (try subst hb) <;> try simp only [hb, decide_true, decide_false])) <;> try simp (disch := first | exact dsch | kernel_rfl) only [go_sem, ↓reduceIte, Nat.reduceEqDiff, Nat.reduceLT, Nat.reduceAdd, reduceCtorEq, Int.reduceToNat, Try.ntmps150, Try.results150, hs.len]))
  refine AOK_calls (pick_ok b A l.length H hc hA) ?_
  rintro _ H1 ⟨b1, c1, x, rfl, hx, _⟩
  have hs1 : IntsAt H1 s l := b1.slice ha hs
  (simp (disch := first | exact dsch | kernel_rfl) only [go_sem, ↓reduceIte, Nat.reduceEqDiff, Nat.reduceLT, Nat.reduceAdd, reduceCtorEq, Int.reduceToNat, Try.ntmps150, Try.results150, hs1.ix, hs1.ld] <;> repeat' ((first | refine AK.drawT (by kernel_rfl) ?_ | ((first | refine ABK_mk ?_ ?_ | refine AGK_mk ?_ ?_) <;> intro hb <;> (try simp only [decide_eq_true_eq, decide_eq_false_iff_not, Bool.not_eq_true', Bool.not_eq_false', Bool.not_not] at hb) <;> (try (exfalso; omega)) <;> (try subst hb) <;> try simp only [hb, decide_true, decide_false])) <;> try simp (disch := first | exact dsch | kernel_rfl) only [go_sem, ↓reduceIte, Nat.reduceEqDiff, Nat.reduceLT, Nat.reduceAdd, reduceCtorEq, Int.reduceToNat, Try.ntmps150, Try.results150, hs1.ix, hs1.ld]))
  exact ⟨b1, c1, _, rfl, getD_mem (by omega)⟩

theorem l1Most_ok (x y : Int) (H : AH) : E 206 [.int .i64 x, .int .i64 y] H (Is (.int .i64 (max x y)) H) := by
  refine Ev.enterK (fn := Try.f206) rfl Try.func206 rfl (by kernel_rfl) (by simp [Try.ntmps206]) ?_
  (simp (disch := first | exact dsch | kernel_rfl) only [go_sem, ↓reduceIte, Nat.reduceEqDiff, Nat.reduceLT, Nat.reduceAdd, reduceCtorEq, Int.reduceToNat, Try.ntmps206, Try.results206] <;> repeat' ((first | refine AK.drawT (by kernel_rfl) ?_ | ((first | refine ABK_mk ?_ ?_ | refine AGK_mk ?_ ?_) <;> intro hb <;> (try simp only [decide_eq_true_eq, decide_eq_false_iff_not, Bool.not_eq_true', Bool.not_eq_false', Bool.not_not] at hb) <;> (try (exfalso; omega)) <;> (try subst hb) <;> try simp only [hb, decide_true, decide_false])) <;> try simp (disch := first | exact dsch | kernel_rfl) only [go_sem, ↓reduceIte, Nat.reduceEqDiff, Nat.reduceLT, Nat.reduceAdd, reduceCtorEq, Int.reduceToNat, Try.ntmps206, Try.results206]))
  · exact Is.mk (by rw [Int.max_eq_left (by omega)]) (by exact xt)
  · exact Is.mk (by rw [Int.max_eq_right (by omega)]) (by exact xt)
--@CON spec.l1Most: exact l1Most_ok _ _ _
theorem l1Least_ok (x y : Int) (H : AH) : E 239 [.int .i64 x, .int .i64 y] H (Is (.int .i64 (min x y)) H) := by
  refine Ev.enterK (fn := Try.f239) rfl Try.func239 rfl (by kernel_rfl) (by simp [Try.ntmps239]) ?_
  (simp (disch := first | exact dsch | kernel_rfl) only [go_sem, ↓reduceIte, Nat.reduceEqDiff, Nat.reduceLT, Nat.reduceAdd, reduceCtorEq, Int.reduceToNat, Try.ntmps239, Try.results239] <;> repeat' ((first | refine AK.drawT (by kernel_rfl) ?_ | ((first | refine ABK_mk ?_ ?_ | refine AGK_mk ?_ ?_) <;> intro hb <;> (try simp only [decide_eq_true_eq, decide_eq_false_iff_not, Bool.not_eq_true', Bool.not_eq_false', Bool.not_not] at hb) <;> (try (exfalso; omega)) <;> (try subst hb) <;> try simp only [hb, decide_true, decide_false])) <;> try simp (disch := first | exact dsch | kernel_rfl) only [go_sem, ↓reduceIte, Nat.reduceEqDiff, Nat.reduceLT, Nat.reduceAdd, reduceCtorEq, Int.reduceToNat, Try.ntmps239, Try.results239]))
  · exact Is.mk (by rw [Int.min_eq_left (by omega)]) (by exact xt)
  · exact Is.mk (by rw [Int.min_eq_right (by omega)]) (by exact xt)
--@CON spec.l1Least: exact l1Least_ok _ _ _

end Go.Proofs.Ytopbfmhajbjepaa
