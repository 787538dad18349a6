/- What a walk says of loops and calls, and its tactics. -/
import Derived.Test.YtopbfmhajbjepaaFw16
namespace Go.Proofs.Ytopbfmhajbjepaa
open Go
set_option linter.unusedSectionVars false
set_option linter.unusedSimpArgs false
set_option linter.unusedVariables false

/-- All slots that a code fills lie in a list. -/
def wr (ds : List Nat) : Code → Bool
  | .region _ ops _ => ops.toList.all fun o => match o.dst with | some d => ds.elem d | none => true
  | .seq a b => wr ds a && wr ds b
  | .cond _ a b => wr ds a && wr ds b
  | .block _ b => wr ds b
  | .loop b => wr ds b
  | _ => true

theorem Tm.put_out {tm : Tm} {d : Option Tmp} {v : AV} {ds : List Nat} (h : (match d with | some d => ds.elem d | none => true) = true) {t : Nat} (ht : ds.elem t = false) : (tm.put d v) t = tm t := by
  cases d with
  | none => rfl
  | some d =>
    simp only [Tm.put, Tm.upd]
    rw [if_neg]
    rintro rfl
    simp_all

theorem AOps.frame {T : TT} {C : CT} {n : Nat} {ops : Array Oper} {dr : Dr} {tot : Nat → Bool} {ds : List Nat} {t : Nat} (ht : ds.elem t = false) :
    ∀ {l : List Oper} {i : Nat} {tm : Tm} {H : AH} {tm' : Tm} {H' : AH}, (l.all fun o => match o.dst with | some d => ds.elem d | none => true) = true → AOps T C n ops dr tot i l tm H tm' H' → tm' t = tm t
  | [], _, _, _, _, _, _, ⟨h, _⟩ => by rw [h]
  | o :: rest, i, tm, H, tm', H', hw, ⟨hd, h⟩ => by
    simp only [List.all_cons, Bool.and_eq_true] at hw
    rcases h with ⟨_, h⟩ | ⟨_, v, H1, _, _, h⟩
    · rw [AOps.frame ht hw.2 h, Tm.put_out hw.1 ht]
    · rw [AOps.frame ht hw.2 h, Tm.put_out hw.1 ht]

theorem AExec.frame {T : TT} {C : CT} {n : Nat} {c : Code} {tm tm' : Tm} {H H' : AH} {e : AExit} {ds : List Nat} {t : Nat} (ht : ds.elem t = false) (h : AExec T C n c tm H e tm' H') : wr ds c = true → tm' t = tm t := by
  induction h with
  | skip => intro _; rfl
  | label => intro _; rfl
  | exit => intro _; rfl
  | ret => intro _; rfl
  | region h => intro hw; exact AOps.frame ht hw h
  | draw _ h => intro hw; exact AOps.frame ht hw h
  | seq _ _ i1 i2 => intro hw; simp only [wr, Bool.and_eq_true] at hw; rw [i2 hw.2, i1 hw.1]
  | seqOut _ _ i => intro hw; simp only [wr, Bool.and_eq_true] at hw; exact i hw.1
  | cond _ _ i =>
    rename_i c x y t' _ _ _ _ _ _ _
    intro hw; simp only [wr, Bool.and_eq_true] at hw
    cases t'
    · exact i hw.2
    · exact i hw.1
  | block _ _ i => intro hw; exact i hw
  | blockOut _ i => intro hw; exact i hw
  | loop _ _ i1 i2 => intro hw; rw [i2 hw, i1 hw]
  | loopOut _ _ i => intro hw; exact i hw

section
variable {P : Program} {T : TT} {prims : PrimT} {n : Nat} {tm : Tm} {H : AH} {Q : AExit → Tm → AH → Prop}

/-- A loop by a measure; what its body does not fill stays. -/
theorem AW.while {c : Code} (ds : List Nat) (hds : wr ds c = true) (I : Nat → Tm → AH → Prop) (k : Nat) (h0 : I k tm H)
    (hr : ∀ k tm' H', (∀ t, ds.elem t = false → tm' t = tm t) → I k tm' H' → AW P T prims n c tm' H' (Q1 Q fun tm2 H2 => ∃ j, j < k ∧ I j tm2 H2)) : AW P T prims n (.loop c) tm H Q := by
  refine AW.loop (fun k tm' H' => (∀ t, ds.elem t = false → tm' t = tm t) ∧ I k tm' H') k ⟨fun _ _ => rfl, h0⟩ ?_
  rintro k tm' H' ⟨hf, hI⟩
  obtain ⟨e, tm2, H2, hx, hq⟩ := hr k tm' H' hf hI
  refine ⟨e, tm2, H2, hx, ?_⟩
  cases e with
  | normal =>
    obtain ⟨j, hj, hI⟩ := hq
    exact ⟨j, hj, fun t ht => by rw [hx.frame ht hds, hf t ht], hI⟩
  | exit id => exact hq
  | ret => exact hq

/-- A loop that counts up in slot 'q'. -/
theorem AW.count {c : Code} (q : Nat) (ds : List Nat) (hds : wr ds c = true) (i0 N : Nat) (I : Nat → Tm → AH → Prop) (hq : tm q = .int .i64 (i0 : Int)) (hN : i0 ≤ N) (h0 : I i0 tm H)
    (hr : ∀ i tm' H', i0 ≤ i → i ≤ N → (∀ t, ds.elem t = false → tm' t = tm t) → tm' q = .int .i64 (i : Int) → I i tm' H' →
      AW P T prims n c tm' H' (Q1 Q fun tm2 H2 => i < N ∧ tm2 q = .int .i64 ((i : Int) + 1) ∧ I (i + 1) tm2 H2)) : AW P T prims n (.loop c) tm H Q := by
  refine AW.while ds hds (fun k tm' H' => ∃ i, i0 ≤ i ∧ i ≤ N ∧ k = N - i ∧ tm' q = .int .i64 (i : Int) ∧ I i tm' H') (N - i0) ⟨i0, Nat.le_refl _, hN, rfl, hq, h0⟩ ?_
  rintro k tm' H' hf ⟨i, h1, h2, rfl, h3, h4⟩
  refine (hr i tm' H' h1 h2 hf h3 h4).mono ?_
  intro e tm2 H2 h
  cases e with
  | normal => obtain ⟨hl, h5, h6⟩ := h; exact ⟨N - (i + 1), by omega, i + 1, by omega, hl, rfl, by rw [h5]; rfl, h6⟩
  | exit id => exact h
  | ret => exact h

/- The same with what is to follow as a list. -/
variable {ks : List KI}
theorem AK.while {c : Code} (ds : List Nat) (hds : wr ds c = true) (I : Nat → Tm → AH → Prop) (k : Nat) (h0 : I k tm H)
    (hr : ∀ k tm' H' (K : Tm → AH → Prop), (∀ t, ds.elem t = false → tm' t = tm t) → I k tm' H' → (∀ j tm2 H2, j < k → I j tm2 H2 → K tm2 H2) → AK P T prims n c (.body K :: ks) tm' H' Q) : AK P T prims n (.loop c) ks tm H Q :=
  AW.while ds hds I k h0 fun k tm' H' hf hI => hr k tm' H' (fun tm2 H2 => ∃ j, j < k ∧ I j tm2 H2) hf hI fun j _ _ hj hI => ⟨j, hj, hI⟩

theorem AK.count {c : Code} (q : Nat) (ds : List Nat) (hds : wr ds c = true) (i0 N : Nat) (I : Nat → Tm → AH → Prop) (hq : tm q = .int .i64 (i0 : Int)) (hN : i0 ≤ N) (h0 : I i0 tm H)
    (hr : ∀ i tm' H' (K : Tm → AH → Prop), i0 ≤ i → i ≤ N → (∀ t, ds.elem t = false → tm' t = tm t) → tm' q = .int .i64 (i : Int) → I i tm' H' →
      (∀ tm2 H2, i < N → tm2 q = .int .i64 ((i : Int) + 1) → I (i + 1) tm2 H2 → K tm2 H2) → AK P T prims n c (.body K :: ks) tm' H' Q) : AK P T prims n (.loop c) ks tm H Q :=
  AW.count q ds hds i0 N I hq hN h0 fun i tm' H' h1 h2 hf h3 h4 => hr i tm' H' (fun tm2 H2 => i < N ∧ tm2 q = .int .i64 ((i : Int) + 1) ∧ I (i + 1) tm2 H2) h1 h2 hf h3 h4 fun _ _ a b c => ⟨a, b, c⟩

/-- The same where the loop turns nothing that is old. -/
theorem AK.countx {c : Code} (q : Nat) (ds : List Nat) (hds : wr ds c = true) (i0 N : Nat) (I : Nat → Tm → AH → Prop) (hq : tm q = .int .i64 (i0 : Int)) (hN : i0 ≤ N) (h0 : I i0 tm H)
    (hr : ∀ i tm' H' (K : Tm → AH → Prop), i0 ≤ i → i ≤ N → (∀ t, ds.elem t = false → tm' t = tm t) → tm' q = .int .i64 (i : Int) → Ext H H' → I i tm' H' →
      (∀ tm2 H2, i < N → tm2 q = .int .i64 ((i : Int) + 1) → Ext H H2 → I (i + 1) tm2 H2 → K tm2 H2) → AK P T prims n c (.body K :: ks) tm' H' Q) : AK P T prims n (.loop c) ks tm H Q :=
  AK.count q ds hds i0 N (fun i tm' H' => Ext H H' ∧ I i tm' H') hq hN ⟨Ext.refl _, h0⟩ fun i tm' H' K h1 h2 hf h3 h4 hK => hr i tm' H' K h1 h2 hf h3 h4.1 h4.2 fun tm2 H2 a b c d => hK tm2 H2 a b ⟨c, d⟩
theorem AK.whilex {c : Code} (ds : List Nat) (hds : wr ds c = true) (I : Nat → Tm → AH → Prop) (k : Nat) (h0 : I k tm H)
    (hr : ∀ k tm' H' (K : Tm → AH → Prop), (∀ t, ds.elem t = false → tm' t = tm t) → Ext H H' → I k tm' H' → (∀ j tm2 H2, j < k → Ext H H2 → I j tm2 H2 → K tm2 H2) → AK P T prims n c (.body K :: ks) tm' H' Q) : AK P T prims n (.loop c) ks tm H Q :=
  AK.while ds hds (fun k tm' H' => Ext H H' ∧ I k tm' H') k ⟨Ext.refl _, h0⟩ fun k tm' H' K hf hI hK => hr k tm' H' K hf hI.1 hI.2 fun j tm2 H2 a b c => hK j tm2 H2 a ⟨b, c⟩

/-- What holds between a code and the next. -/
theorem AK.mid {c y : Code} (ds : List Nat) (hds : wr ds c = true) (M : Tm → AH → Prop) (h : ∀ K : Tm → AH → Prop, (∀ tm2 H2, M tm2 H2 → K tm2 H2) → AK P T prims n c (.body K :: ks) tm H Q)
    (hy : ∀ tm' H', (∀ t, ds.elem t = false → tm' t = tm t) → M tm' H' → AK P T prims n y ks tm' H' Q) : AK P T prims n c (.code y :: ks) tm H Q := by
  obtain ⟨e, tm1, H1, hx, hq⟩ := h M fun _ _ h => h
  refine ⟨e, tm1, H1, hx, ?_⟩
  cases e with
  | normal => exact hy tm1 H1 (fun t ht => hx.frame ht hds) hq
  | exit id => exact hq
  | ret => exact hq
end
end Go.Proofs.Ytopbfmhajbjepaa
