/- Contracts: maps of sets; parts of slices, and what is appended to them. -/
import Derived.Test.YtopbfmhajbjepaaC13
import Derived.Test.YtopbfmhajbjepaaC7
namespace Go.Proofs.Ytopbfmhajbjepaa
open Go
set_option linter.unusedSimpArgs false
set_option linter.unusedVariables false

/-- What a map is: as many sets as numbers. -/
def MapOK (m : List Nat) : Prop := (1 ≤ m.length ∧ m.length ≤ 16) ∧ ∀ i < m.length, m.getD i 0 < 2 ^ m.length
theorem MapOK.lt {m : List Nat} (h : MapOK m) (i : Nat) : m.getD i 0 < 65536 := by
  have hp : 2 ^ m.length ≤ 65536 := Nat.pow_le_pow_right (n := 2) (by omega) h.1.2
  by_cases hi : i < m.length
  · have := h.2 i hi; omega
  · simp [List.getD, hi]
theorem ap_take_succ (m : List Nat) (s i : Nat) : xs (fun i => m.getD i 0) s (i + 1) = xs (fun i => m.getD i 0) s i ^^^ (if s.testBit i then m.getD i 0 else 0) := rfl

def Applies (f : FuncId) : Prop := ∀ (m : List Nat) (s : Nat) (v : AV) (H : AH), NatsAt H v m → m.length ≤ 62 → (∀ i < m.length, m.getD i 0 < 9223372036854775808) → s < 9223372036854775808 →
    E f [v, .int .i64 s] H (Is (.int .i64 (ap m s : Nat)) H)
theorem xs63 {f : Nat → Nat} {s K : Nat} (h : ∀ k < K, f k < 9223372036854775808) : xs f s K < 9223372036854775808 := by
  rw [← pow63] at h ⊢; exact xs_lt fun k hk _ => h k hk
theorem apply_ok : Applies 203 := by
  intro m s v H hv hl hm hs
  refine Ev.enterK (fn := Try.f203) rfl Try.func203 rfl (by kernel_rfl) (by simp [Try.ntmps203]) ?_
  (simp (disch := first | exact dsch | kernel_rfl) only [go_sem, ↓reduceIte, Nat.reduceEqDiff, Nat.reduceLT, Nat.reduceAdd, reduceCtorEq, Int.reduceToNat, Try.ntmps203, Try.results203, hv.len] <;> repeat' ((first | (refine AOK_is (by first | exact has_ok _ _ (by omega) (by omega) _ | exact has_okz _ _ (by omega) (by omega) (by omega) (by omega) _) ?_; intro Hc hxc) | refine AK.drawT (by kernel_rfl) ?_ | ((first | refine ABK_mk ?_ ?_ | refine AGK_mk ?_ ?_) <;> intro hb <;> (try simp only [decide_eq_true_eq, decide_eq_false_iff_not, Bool.not_eq_true', Bool.not_eq_false', Bool.not_not] at hb) <;> (try (exfalso; omega)) <;> (try subst hb) <;> try simp only [hb, decide_true, decide_false])) <;> try simp (disch := first | exact dsch | kernel_rfl) only [go_sem, ↓reduceIte, Nat.reduceEqDiff, Nat.reduceLT, Nat.reduceAdd, reduceCtorEq, Int.reduceToNat, Try.ntmps203, Try.results203, hv.len]))
  refine (AK.countx 10 [5, 6, 7, 10, 11, 12, 13, 14, 15, 16, 17, 18, 19, 20, 21] (by kernel_rfl) 0 m.length (fun i tm H' => tm 5 = .int .i64 (xs (fun i => m.getD i 0) s i : Nat)) (by rfl) (by omega) (by simp [go_sem, xs]) ?_)
  rintro i tm H' K h1 h2 fr hq hx h5 hK
  have hxi := xs63 (s := s) (K := i) (f := fun i => m.getD i 0) fun k hk => hm k (by omega)
  have hmi := hm i
  (simp (disch := first | exact dsch | kernel_rfl) only [go_sem, ↓reduceIte, Nat.reduceEqDiff, Nat.reduceLT, Nat.reduceAdd, reduceCtorEq, Int.reduceToNat, Try.ntmps203, Try.results203, fr, hq, h5, hv.len, hv.ix, hv.ld, Int.ofNat_lt] <;> repeat' ((first | (refine AOK_is (by first | exact has_ok _ _ (by omega) (by omega) _ | exact has_okz _ _ (by omega) (by omega) (by omega) (by omega) _) ?_; intro Hc hxc) | refine AK.drawT (by kernel_rfl) ?_ | ((first | refine ABK_mk ?_ ?_ | refine AGK_mk ?_ ?_) <;> intro hb <;> (try simp only [decide_eq_true_eq, decide_eq_false_iff_not, Bool.not_eq_true', Bool.not_eq_false', Bool.not_not] at hb) <;> (try (exfalso; omega)) <;> (try subst hb) <;> try simp only [hb, decide_true, decide_false])) <;> try simp (disch := first | exact dsch | kernel_rfl) only [go_sem, ↓reduceIte, Nat.reduceEqDiff, Nat.reduceLT, Nat.reduceAdd, reduceCtorEq, Int.reduceToNat, Try.ntmps203, Try.results203, fr, hq, h5, hv.len, hv.ix, hv.ld, Int.ofNat_lt]))
  · refine hK _ _ (by omega) (by rfl) (by exact xt) ?_
    simp only [go_sem, ↓reduceIte, Nat.reduceEqDiff, xs_succ, hb]
  · refine hK _ _ (by omega) (by rfl) (by exact xt) ?_
    simp [go_sem, xs_succ, hb, h5]
  · have e : i = m.length := by omega
    subst e
    exact Is.mk rfl (by exact xt)
theorem prApply_ok : Applies 198 := by
  intro m s v H hv hl hm hs
  refine Ev.enterK (fn := Try.f198) rfl Try.func198 rfl (by kernel_rfl) (by simp [Try.ntmps198]) ?_
  (simp (disch := first | exact dsch | kernel_rfl) only [go_sem, ↓reduceIte, Nat.reduceEqDiff, Nat.reduceLT, Nat.reduceAdd, reduceCtorEq, Int.reduceToNat, Try.ntmps198, Try.results198, hv.len] <;> repeat' ((first | (refine AOK_is (by first | exact grIn_ok _ _ (by omega) _ | exact grIn_okz _ _ (by omega) (by omega) (by omega) _) ?_; intro Hc hxc) | refine AK.drawT (by kernel_rfl) ?_ | ((first | refine ABK_mk ?_ ?_ | refine AGK_mk ?_ ?_) <;> intro hb <;> (try simp only [decide_eq_true_eq, decide_eq_false_iff_not, Bool.not_eq_true', Bool.not_eq_false', Bool.not_not] at hb) <;> (try (exfalso; omega)) <;> (try subst hb) <;> try simp only [hb, decide_true, decide_false])) <;> try simp (disch := first | exact dsch | kernel_rfl) only [go_sem, ↓reduceIte, Nat.reduceEqDiff, Nat.reduceLT, Nat.reduceAdd, reduceCtorEq, Int.reduceToNat, Try.ntmps198, Try.results198, hv.len]))
  refine (AK.countx 10 [5, 6, 7, 10, 11, 12, 13, 14, 15, 16, 17, 18, 19, 20, 21] (by kernel_rfl) 0 m.length (fun i tm H' => tm 5 = .int .i64 (xs (fun i => m.getD i 0) s i : Nat)) (by rfl) (by omega) (by simp [go_sem, xs]) ?_)
  rintro i tm H' K h1 h2 fr hq hx h5 hK
  have hxi := xs63 (s := s) (K := i) (f := fun i => m.getD i 0) fun k hk => hm k (by omega)
  have hmi := hm i
  (simp (disch := first | exact dsch | kernel_rfl) only [go_sem, ↓reduceIte, Nat.reduceEqDiff, Nat.reduceLT, Nat.reduceAdd, reduceCtorEq, Int.reduceToNat, Try.ntmps198, Try.results198, fr, hq, h5, hv.len, hv.ix, hv.ld, Int.ofNat_lt] <;> repeat' ((first | (refine AOK_is (by first | exact grIn_ok _ _ (by omega) _ | exact grIn_okz _ _ (by omega) (by omega) (by omega) _) ?_; intro Hc hxc) | refine AK.drawT (by kernel_rfl) ?_ | ((first | refine ABK_mk ?_ ?_ | refine AGK_mk ?_ ?_) <;> intro hb <;> (try simp only [decide_eq_true_eq, decide_eq_false_iff_not, Bool.not_eq_true', Bool.not_eq_false', Bool.not_not] at hb) <;> (try (exfalso; omega)) <;> (try subst hb) <;> try simp only [hb, decide_true, decide_false])) <;> try simp (disch := first | exact dsch | kernel_rfl) only [go_sem, ↓reduceIte, Nat.reduceEqDiff, Nat.reduceLT, Nat.reduceAdd, reduceCtorEq, Int.reduceToNat, Try.ntmps198, Try.results198, fr, hq, h5, hv.len, hv.ix, hv.ld, Int.ofNat_lt]))
  · refine hK _ _ (by omega) (by rfl) (by exact xt) ?_
    simp only [go_sem, ↓reduceIte, Nat.reduceEqDiff, xs_succ, hb]
  · refine hK _ _ (by omega) (by rfl) (by exact xt) ?_
    simp [go_sem, xs_succ, hb, h5]
  · have e : i = m.length := by omega
    subst e
    exact Is.mk rfl (by exact xt)

/- Parts of slices. -/
def AV.pre (v : AV) (i : Nat) : AV := match v with | .sl b o _ => .sl b o i | v => v
def AV.post (v : AV) (i : Nat) : AV := match v with | .sl b o n => .sl b (o + i) (n - i) | v => v
section
variable {H H' : AH} {v : AV} {cs : List AV}
theorem esz_ext (x : Ext H H') {b e : Nat} {ro : Bool} {xs : List AV} (h : H.blk b = .cells e ro xs) : H'.esz b = e := by unfold AH.esz; rw [x.cells h]
theorem SliceAt.n_eq {b o n : Nat} (h : SliceAt H (.sl b o n) 1 cs) : n = cs.length := by
  rcases h with ⟨h, _⟩ | ⟨b', o', n', ro, xs, h1, h2, h3, h4⟩
  · cases h
  · cases h1; rw [← h4, List.length_take, List.length_drop]; omega
theorem SliceAt.pre_eq (h : SliceAt H v 1 cs) (x : Ext H H') {t te : TypeId} {d de : TD} (hT : TA t = some d) (hd : d.d = .slice te) (hTe : TA te = some de) (hs : de.size = 1) {i : Int} (h0 : 0 ≤ i) (hi : i ≤ cs.length) :
    aslice TA H' t v none (some (.int .i64 i)) = some (v.pre i.toNat) := by
  rcases h with ⟨rfl, rfl⟩ | ⟨b, o, n, ro, xs, rfl, h2, h3, h4⟩
  · have : i = 0 := by simp at hi; omega
    subst this
    simp [aslice, hT, hd, hTe, abound, AV.pre]
  · have hn : n = cs.length := by rw [← h4, List.length_take, List.length_drop]; omega
    have : i ≤ (n : Int) := by omega
    simp [aslice, hT, hd, hTe, abound, AV.pre, esz_ext x h2, hs, h0, this]
theorem SliceAt.post_eq (h : SliceAt H v 1 cs) (x : Ext H H') {t te : TypeId} {d de : TD} (hT : TA t = some d) (hd : d.d = .slice te) (hTe : TA te = some de) (hs : de.size = 1) {i : Int} (h0 : 0 ≤ i) (hi : i ≤ cs.length) :
    aslice TA H' t v (some (.int .i64 i)) none = some (v.post i.toNat) := by
  rcases h with ⟨rfl, rfl⟩ | ⟨b, o, n, ro, xs, rfl, h2, h3, h4⟩
  · have : i = 0 := by simp at hi; omega
    subst this
    simp [aslice, hT, hd, hTe, abound, AV.post]
  · have hn : n = cs.length := by rw [← h4, List.length_take, List.length_drop]; omega
    have : i ≤ (n : Int) := by omega
    simp [aslice, hT, hd, hTe, abound, AV.post, esz_ext x h2, hs, h0, this]
theorem SliceAt.pre (h : SliceAt H v 1 cs) {i : Nat} (hi : i ≤ cs.length) : SliceAt H (v.pre i) 1 (cs.take i) := by
  rcases h with ⟨rfl, rfl⟩ | ⟨b, o, n, ro, xs, rfl, h2, h3, h4⟩
  · exact .inl ⟨rfl, by simp⟩
  · have hn : n = cs.length := by rw [← h4, List.length_take, List.length_drop]; omega
    refine .inr ⟨b, o, i, ro, xs, rfl, h2, by omega, ?_⟩
    rw [← h4, List.take_take]; congr 1; omega
theorem SliceAt.post (h : SliceAt H v 1 cs) {i : Nat} (hi : i ≤ cs.length) : SliceAt H (v.post i) 1 (cs.drop i) := by
  rcases h with ⟨rfl, rfl⟩ | ⟨b, o, n, ro, xs, rfl, h2, h3, h4⟩
  · exact .inl ⟨rfl, by simp⟩
  · have hn : n = cs.length := by rw [← h4, List.length_take, List.length_drop]; omega
    refine .inr ⟨b, o + i, n - i, ro, xs, rfl, h2, by omega, ?_⟩
    rw [← h4, List.drop_take, List.drop_drop]; congr 1; omega
theorem IntsAt.pre_eq {l : List Int} (h : IntsAt H v l) (x : Ext H H') {i : Int} (h0 : 0 ≤ i) (hi : i ≤ l.length) : aslice TA H' 22 v none (some (.int .i64 i)) = some (v.pre i.toNat) :=
  SliceAt.pre_eq h x (t := 22) (te := 3) rfl rfl rfl rfl h0 (by simpa using hi)
theorem IntsAt.post_eq {l : List Int} (h : IntsAt H v l) (x : Ext H H') {i : Int} (h0 : 0 ≤ i) (hi : i ≤ l.length) : aslice TA H' 22 v (some (.int .i64 i)) none = some (v.post i.toNat) :=
  SliceAt.post_eq h x (t := 22) (te := 3) rfl rfl rfl rfl h0 (by simpa using hi)
theorem ints_take (l : List Int) (i : Nat) : (ints l).take i = ints (l.take i) := by simp [ints, List.map_take]
theorem ints_drop (l : List Int) (i : Nat) : (ints l).drop i = ints (l.drop i) := by simp [ints, List.map_drop]
theorem IntsAt.pre {l : List Int} (h : IntsAt H v l) {i : Nat} (hi : i ≤ l.length) : IntsAt H (v.pre i) (l.take i) := by have := SliceAt.pre h (i := i) (by simpa using hi); rwa [ints_take] at this
theorem IntsAt.post {l : List Int} (h : IntsAt H v l) {i : Nat} (hi : i ≤ l.length) : IntsAt H (v.post i) (l.drop i) := by have := SliceAt.post h (i := i) (by simpa using hi); rwa [ints_drop] at this
theorem aslice_esz (h : ∀ b o n, v = .sl b o n → H'.esz b = H.esz b) {t : TypeId} {lo hi : Option AV} : aslice TA H' t v lo hi = aslice TA H t v lo hi := by
  unfold aslice
  cases TA t with
  | none => rfl
  | some d =>
    obtain ⟨dd, _, _, _, _⟩ := d
    cases dd <;> cases v <;> try rfl
    simp only [h _ _ _ rfl]
theorem aslice_drop {W : Nat → Prop} (h : v = .nilsl ∨ ¬ W v.sb) {t : TypeId} {lo hi : Option AV} : aslice TA (H.drop W) t v lo hi = aslice TA H t v lo hi := by
  refine aslice_esz fun b o n e => ?_
  subst e
  rcases h with h | h
  · cases h
  · unfold AH.esz; simp only [AH.drop, if_neg (show ¬ W b from h)]
end

def akeep (s : AV) (H : AH) : Option (AV × AH) := match s with | .str _ => none | _ => some (s, H)
theorem app_eq {H : AH} {t te : TypeId} {d de : TD} (hT : TA t = some d) (hd : d.d = .slice te) (hTe : TA te = some de) {s x : AV} {n m : Nat} {old new : List AV} (h1 : asource H de.size s = some (n, old)) (h2 : asource H de.size x = some (m, new))
    (h0 : de.size ≠ 0) (ho : new.all AV.one = true) (hb : (n + m) * de.bytes ≤ 140737488355328) (hl : n + m ≤ 9223372036854775807) :
    aappend2 TA H t t s x = if m = 0 then akeep s H else match H.kill s with | none => none | some H1 => some (.sl H.size 0 (n + m), H1.push (.cells de.size false (old ++ new))) := by
  have e0 : (#[t, t] : Array TypeId)[0]? = some t := rfl
  have e1 : (#[t, t] : Array TypeId)[1]? = some t := rfl
  simp only [aappend2, aappend, e0, e1, hT, hd, hTe, srcOk, h1, h2]
  rw [if_neg (by simp), if_neg (by rw [ho]; simp [h0]; omega)]
  rfl
/-- A slice is appended to a list that is being made. -/
theorem OwnC.apps {H0 H H1 : AH} {v y : AV} {cs ys : List AV} (h : OwnC H0 H v cs) (x : Ext H H1) (x0 : Ext H0 H1) (hy : SliceAt H1 y 1 ys) (hys : ys.all AV.one = true) (hl : cs.length + ys.length < 1099511627776)
    {t te : TypeId} {d de : TD} (hT : TA t = some d) (hd : d.d = .slice te) (hTe : TA te = some de) (hs : de.size = 1) (hb : de.bytes ≤ 64) :
    ∃ v' H2, aappend2 TA H1 t t v y = some (v', H2) ∧ OwnC H0 H2 v' (cs ++ ys) ∧ Wrote v H1 H2 ∧ Ext H0 H2 := by
  have hb' : (cs.length + ys.length) * de.bytes ≤ 140737488355328 := by
    have : (cs.length + ys.length) * de.bytes ≤ 1099511627776 * 64 := Nat.mul_le_mul (by omega) hb
    omega
  have src : ∀ {z : AV} {zs : List AV}, SliceAt H1 z 1 zs → asource H1 de.size z = some (zs.length, zs) := by
    intro z zs hz
    rw [hs]
    rcases hz with ⟨rfl, rfl⟩ | ⟨b, o, n, ro, xs, rfl, h2, h3, h4⟩
    · rfl
    · have hn : n = zs.length := by rw [← h4, List.length_take, List.length_drop]; omega
      simp only [asource, h2]
      rw [if_pos ⟨trivial, h3⟩, ← hn, h4]
  have hv1 := h.ext x
  have e := app_eq hT hd hTe (src hv1.slice) (src hy) (by omega) hys hb' (by omega)
  by_cases hz : ys.length = 0
  · rw [if_pos hz] at e
    have : ys = [] := List.length_eq_zero_iff.1 hz
    subst this
    refine ⟨v, H1, ?_, by rw [List.append_nil]; exact hv1, Wrote.refl _ _, x0⟩
    rw [e]
    rcases hv1 with ⟨rfl, rfl⟩ | ⟨b, rfl, h2, h3⟩ <;> rfl
  · rw [if_neg hz] at e
    have hk : H1.kill v = some (H1.sans v) := by
      rcases hv1 with ⟨rfl, rfl⟩ | ⟨b, rfl, h2, h3⟩
      · rfl
      · simp only [AH.kill, h3, AH.sans]
    rw [hk] at e
    refine ⟨_, _, e, ?_, ?_, (Ext.sans h x0).trans (Ext.push _ _)⟩
    · have := OwnC.new (H0 := H0) (H := H1.sans v) (by rw [sans_size]; exact x0.size) (cs ++ ys)
      rw [List.length_append, sans_size] at this
      rw [hs]; exact this
    · have : Ext ((H1.sans v).sans v) (((H1.sans v).push (.cells 1 false (cs ++ ys))).sans v) := (Ext.push _ _).sans2
      have e2 : (H1.sans v).sans v = H1.sans v := by
        cases v <;> try rfl
        refine AH.ext' rfl fun c => ?_
        simp only [AH.sans, put_blk, put_size]
        split <;> rfl
      rw [e2] at this
      rw [hs]; exact this
theorem OwnC.apps_ints {H0 H H1 : AH} {v y : AV} {l m : List Int} (h : OwnC H0 H v (ints l)) (x : Ext H H1) (x0 : Ext H0 H1) (hy : IntsAt H1 y m) (hl : l.length + m.length < 1099511627776) :
    ∃ v' H2, aappend2 TA H1 22 22 v y = some (v', H2) ∧ OwnC H0 H2 v' (ints (l ++ m)) ∧ Wrote v H1 H2 ∧ Ext H0 H2 := by
  have := h.apps x x0 hy (ints_one _) (by simpa using hl) (t := 22) (te := 3) rfl rfl rfl rfl (by decide)
  rwa [← ints_append] at this

theorem l1Own_ok (l : List Int) (s : AV) (H : AH) (hs : IntsAt H s l) (hl : l.length < 1099511627776) : E 197 [s] H (Gives H fun v H' => OwnC H H' v (ints l)) := by
  obtain ⟨v', H2, e, ho, _, x⟩ := OwnC.apps_ints (H0 := H) (H1 := H.push (.cells 1 false [])) (v := .sl H.size 0 0) (l := []) (m := l) (y := s) (OwnC.new (Nat.le_refl _) []) (Ext.refl _) (Ext.push _ _) (hs.ext (Ext.push _ _)) (by simpa using hl)
  refine Ev.enterK (fn := Try.f197) rfl Try.func197 rfl (by kernel_rfl) (by simp [Try.ntmps197]) ?_
  (simp (disch := first | exact dsch | kernel_rfl) only [go_sem, ↓reduceIte, Nat.reduceEqDiff, Nat.reduceLT, Nat.reduceAdd, reduceCtorEq, Int.reduceToNat, Try.ntmps197, Try.results197, e] <;> repeat' ((first | refine AK.drawT (by kernel_rfl) ?_ | ((first | refine ABK_mk ?_ ?_ | refine AGK_mk ?_ ?_) <;> intro hb <;> (try simp only [decide_eq_true_eq, decide_eq_false_iff_not, Bool.not_eq_true', Bool.not_eq_false', Bool.not_not] at hb) <;> (try (exfalso; omega)) <;> (try subst hb) <;> try simp only [hb, decide_true, decide_false])) <;> try simp (disch := first | exact dsch | kernel_rfl) only [go_sem, ↓reduceIte, Nat.reduceEqDiff, Nat.reduceLT, Nat.reduceAdd, reduceCtorEq, Int.reduceToNat, Try.ntmps197, Try.results197, e]))
  exact ⟨x, ho⟩

end Go.Proofs.Ytopbfmhajbjepaa
