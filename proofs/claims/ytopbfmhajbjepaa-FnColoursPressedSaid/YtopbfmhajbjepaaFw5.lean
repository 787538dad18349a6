/- More operations: slices, arithmetic, literals, stores. -/
import Derived.Test.YtopbfmhajbjepaaFw4
namespace Go.Proofs.Ytopbfmhajbjepaa
open Go
set_option linter.unusedSectionVars false

section
variable {P : Program} {T : TT} (hT : ∀ t d, T t = some d → TDOK P t d) {μ : Mu} {H : AH} {w : World} (hR : Rel μ H w)

def ORel (μ : Mu) : Option AV → Option Value → Prop
  | none, none => True
  | some a, some b => VRel μ a b
  | _, _ => False

theorem bounds_rel {lo hi : Option AV} {lo' hi' : Option Value} (hlo : ORel μ lo lo') (hhi : ORel μ hi hi') (isS : Bool) {n cap l h : Nat} (hc : n ≤ cap)
    (h1 : abound hi n n = some h) (h2 : abound lo 0 h = some l) (w : World) :
    (Instr.sliceBounds isS n cap lo' hi' none).run P w = .ok (l, h, cap) w ∧ l ≤ h ∧ h ≤ n := by
  have hh : h ≤ n := by
    cases hi with
    | none => simp [abound] at h1; omega
    | some a => cases a <;> simp [abound] at h1; omega
  have hl : l ≤ h := by
    cases lo with
    | none => simp [abound] at h2; omega
    | some a => cases a <;> simp [abound] at h2; omega
  refine ⟨?_, hl, hh⟩
  cases hi with
  | none =>
    cases hi' with
    | some _ => exact hhi.elim
    | none =>
      simp [abound] at h1
      cases lo with
      | none =>
        cases lo' with
        | some _ => exact hlo.elim
        | none => simp [abound] at h2; simp [Instr.sliceBounds, h1, h2]
      | some a =>
        cases lo' with
        | none => exact hlo.elim
        | some v =>
          have hv : VRel μ a v := hlo
          cases a <;> simp [abound] at h2
          simp only [VRel] at hv; subst hv
          simp [Instr.sliceBounds, h1, Instr.sliceBound, asIntOf, h2]
  | some b =>
    cases hi' with
    | none => exact hhi.elim
    | some u =>
      have hu : VRel μ b u := hhi
      cases b <;> simp [abound] at h1
      rename_i k j
      simp only [VRel] at hu; subst hu
      have hj : j ≤ (cap : Int) := by omega
      cases lo with
      | none =>
        cases lo' with
        | some _ => exact hlo.elim
        | none => simp [abound] at h2; simp [Instr.sliceBounds, h1, h2, Instr.sliceBound, asIntOf, hj]
      | some a =>
        cases lo' with
        | none => exact hlo.elim
        | some v =>
          have hv : VRel μ a v := hlo
          cases a <;> simp [abound] at h2
          simp only [VRel] at hv; subst hv
          simp [Instr.sliceBounds, h1, Instr.sliceBound, asIntOf, hj, h2]

include hT
include hR
theorem esz_rel {b : Nat} {p : Place} {n : Nat} (hp : μ b = some p) (h : H.esz b = n) (hn : n ≠ 0) : p.e = n := by
  unfold AH.esz at h
  split at h
  · rename_i e ro xs hb
    obtain ⟨h1, _⟩ := hR.cells b p e ro xs hp hb
    rw [h1, h]
  · omega

theorem slice_rel {t : TypeId} {x v : AV} {lo hi : Option AV} {lo' hi' : Option Value} (hlo : ORel μ lo lo') (hhi : ORel μ hi hi')
    (hl : aslice T H t x lo hi = some v) {a : Value} (ha : VRel μ x a) :
    ∃ v', (Instr.sliceAt t a lo' hi' none).run P w = .ok v' w ∧ VRel μ v v' := by
  unfold aslice at hl
  split at hl
  · cases hl
  · rename_i d hd
    split at hl
    · rename_i e b o n hde
      split at hl
      · rename_i de h hTe h1
        split at hl
        · rename_i l h2
          split at hl
          · rename_i hes
            cases hl
            simp only [VRel] at ha
            obtain ⟨q, cap, rfl, hc, h0⟩ := ha
            obtain ⟨hb, hlh, hhn⟩ := bounds_rel (P := P) hlo hhi true hc h1 h2 w
            refine ⟨_, by simp [Instr.sliceAt, Instr.slice, r_under hT hd, hde, hb, r_size hT hTe]; rfl, ?_⟩
            simp only [VRel]
            by_cases hcl : cap = l
            · exact ⟨q, cap - l, by simp [hcl], by omega, .inl (by omega)⟩
            · rcases h0 with h0 | ⟨p, hp, rfl, hfit⟩
              · omega
              · have hpe := esz_rel hT hR hp hes.1 hes.2
                refine ⟨⟨p.c, p.d + (o + l * de.size), none⟩, cap - l, ?_, by omega, .inr ⟨p, hp, rfl, ?_⟩⟩
                · simp [hcl, add_none, Nat.add_assoc]
                · rw [hpe] at hfit ⊢
                  have : (cap - l) * de.size + l * de.size = cap * de.size := by rw [← Nat.add_mul]; congr 1; omega
                  omega
          · cases hl
        · cases hl
      · cases hl
    · rename_i e hde
      split at hl
      · rename_i de h hTe h1
        split at hl
        · rename_i l h2
          cases hl
          simp only [VRel] at ha
          subst ha
          obtain ⟨hb, hlh, hhn⟩ := bounds_rel (P := P) hlo hhi true (Nat.le_refl 0) h1 h2 w
          have hl0 : l = 0 := by omega
          have hh0 : h = 0 := by omega
          subst hl0; subst hh0
          refine ⟨_, by simp [Instr.sliceAt, Instr.slice, r_under hT hd, hde, hb, r_size hT hTe]; rfl, ?_⟩
          simp [VRel]
        · cases hl
      · cases hl
    · rename_i s hde
      split at hl
      · rename_i h h1
        split at hl
        · rename_i l h2
          cases hl
          simp only [VRel] at ha
          subst ha
          obtain ⟨hb, hlh, hhn⟩ := bounds_rel (P := P) hlo hhi false (Nat.le_refl s.size) h1 h2 w
          exact ⟨.string (s.extract l h), by simp [Instr.sliceAt, Instr.slice, r_under hT hd, hde, hb], rfl⟩
        · cases hl
      · cases hl
    · cases hl

omit hT hR in
theorem int_rel {op : BinOp} {k : IntKind} {a b : Int} {v : AV} (h : aint op k a b = some v) (t : TypeId) (hs : op ≠ .shl) (hs' : op ≠ .shr) :
    ∃ v', (binOp op t (.int k a) (.int k b)).run P w = .ok v' w ∧ VRel μ v v' := by
  cases op <;> simp only [aint] at h <;> first
    | (exact absurd rfl hs)
    | (exact absurd rfl hs')
    | (cases h; done)
    | (cases h; exact ⟨_, by simp only [binOp, ne_eq, not_true_eq_false, if_false, Op.intArith, Op.intBits, Op.intCmp]; rfl, rfl⟩)
    | (split at h
       · cases h
       · rename_i hb
         cases h; exact ⟨_, by simp only [binOp, ne_eq, not_true_eq_false, if_false, Op.intDiv, hb]; rfl, rfl⟩)

omit hT hR in
theorem str_rel {op : BinOp} {a b : ByteArray} {v : AV} (h : astr op a b = some v) (t : TypeId) :
    ∃ v', (binOp op t (.string a) (.string b)).run P w = .ok v' w ∧ VRel μ v v' := by
  cases op <;> simp only [astr] at h <;> first
    | (cases h; done)
    | (cases h; exact ⟨_, by simp only [binOp, Op.stringOp]; rfl, rfl⟩)
    | (split at h
       · cases h
       · rename_i hb
         cases h; exact ⟨_, by simp only [binOp, Op.stringOp, hb, if_false]; rfl, rfl⟩)

omit hR in
theorem eq_rel {t : TypeId} {d : TD} (hd : T t = some d) {x y : AV} {r : Bool} (h : aeq d.d x y = some r) {a b : Value} (ha : VRel μ x a) (hb : VRel μ y b) :
    (Op.equal t a b).run P w = .ok r w := by
  have hu := r_under hT hd w
  suffices hs : ∀ n, (Op.equalIn (n + 1) t a b).run P w = .ok r w from hs 9999
  intro n
  unfold aeq at h
  split at h <;> first | (cases h; done) | skip
  all_goals
    rename_i hdd
    cases h
    simp only [VRel] at ha hb
    first
      | (obtain ⟨q, c, rfl, _, _⟩ := ha)
      | (obtain ⟨p, hp, rfl⟩ := ha)
      | (obtain ⟨p, rfl, _⟩ := ha)
      | subst ha
    first
      | (obtain ⟨q, c, rfl, _, _⟩ := hb)
      | (obtain ⟨p, hp, rfl⟩ := hb)
      | (obtain ⟨p, rfl, _⟩ := hb)
      | subst hb
    simp only [Op.equalIn, Sem.run_bind, hu, Result.andThen_ok, hdd]
    rfl

omit hR in
theorem bin_rel {op : BinOp} {t : TypeId} {x y v : AV} (h : abin T op t x y = some v) {a b : Value} (ha : VRel μ x a) (hb : VRel μ y b) (ox oy : Operand) :
    ∃ v', (do eqGuard op t ox oy a b; binOp op t a b : Sem Value).run P w = .ok v' w ∧ VRel μ v v' := by
  have guard : ∀ (hn : ¬ (a = .nilIface ∧ b = .nilIface)) (hg : ∀ c, a ≠ .agg c), (eqGuard op t ox oy a b).run P w = .ok () w := by
    intro hn hg
    unfold eqGuard
    cases op <;> simp
    all_goals
      split
      · exact absurd ⟨rfl, rfl⟩ hn
      · exact absurd rfl (hg _)
      · rfl
  have go : ∀ v', (eqGuard op t ox oy a b).run P w = .ok () w → (binOp op t a b).run P w = .ok v' w → (do eqGuard op t ox oy a b; binOp op t a b : Sem Value).run P w = .ok v' w := by
    intro v' h1 h2
    simp only [Sem.run_bind, h1, Result.andThen_ok, h2]
  unfold abin at h
  split at h
  · rename_i k m k' n
    simp only [VRel] at ha hb
    subst ha; subst hb
    have g := guard (by simp) (by simp)
    split at h
    · split at h
      · cases h
      · rename_i hn
        cases h
        exact ⟨_, go _ g (by simp only [binOp, Op.shift, hn, if_false]; rfl), rfl⟩
    · split at h
      · cases h
      · rename_i hn
        cases h
        exact ⟨_, go _ g (by simp only [binOp, Op.shift, hn, if_false]; rfl), rfl⟩
    · rename_i h1 h2
      split at h
      · rename_i hk
        subst hk
        obtain ⟨v', hv, hr⟩ := int_rel (P := P) (μ := μ) (w := w) h t h1 h2
        exact ⟨v', go _ g hv, hr⟩
      · cases h
  · rename_i m n
    simp only [VRel] at ha hb
    subst ha; subst hb
    obtain ⟨v', hv, hr⟩ := str_rel (P := P) (μ := μ) (w := w) h t
    exact ⟨v', go _ (guard (by simp) (by simp)) hv, hr⟩
  · cases h
  · cases h
  · rename_i n1 n2 n3 n4
    split at h
    · rename_i d hd
      cases he : aeq d.d x y with
      | none => simp [he] at h
      | some r =>
        simp [he] at h
        subst h
        have hE := eq_rel (P := P) (w := w) hT hd he ha hb
        refine ⟨.bool r, ?_, rfl⟩
        unfold aeq at he
        split at he <;> first | (cases he; done) | skip
        all_goals
          simp only [VRel] at ha hb
          first
            | (obtain ⟨p, hp, rfl⟩ := ha)
            | (obtain ⟨q, c, rfl, _⟩ := ha)
            | (obtain ⟨p, rfl, _⟩ := ha)
            | subst ha
          first
            | (obtain ⟨p, hp, rfl⟩ := hb)
            | (obtain ⟨q, c, rfl, _⟩ := hb)
            | (obtain ⟨p, rfl, _⟩ := hb)
            | subst hb
          exact go _ (guard (by simp) (by simp)) (by simp [binOp, hE])
    · rename_i d hd
      cases he : aeq d.d x y with
      | none => simp [he] at h
      | some r =>
        simp [he] at h
        subst h
        have hE := eq_rel (P := P) (w := w) hT hd he ha hb
        refine ⟨.bool (!r), ?_, rfl⟩
        unfold aeq at he
        split at he <;> first | (cases he; done) | skip
        all_goals
          simp only [VRel] at ha hb
          first
            | (obtain ⟨p, hp, rfl⟩ := ha)
            | (obtain ⟨q, c, rfl, _⟩ := ha)
            | (obtain ⟨p, rfl, _⟩ := ha)
            | subst ha
          first
            | (obtain ⟨p, hp, rfl⟩ := hb)
            | (obtain ⟨q, c, rfl, _⟩ := hb)
            | (obtain ⟨p, rfl, _⟩ := hb)
            | subst hb
          exact go _ (guard (by simp) (by simp)) (by simp [binOp, hE])
    · cases h

omit hT hR in
theorem un_rel {op : UnOp} {x v : AV} (h : aun op x = some v) {a : Value} (ha : VRel μ x a) : ∃ v', (Op.unary op a).run P w = .ok v' w ∧ VRel μ v v' := by
  unfold aun at h
  split at h <;> first | (cases h; done) | skip
  all_goals
    cases h
    simp only [VRel] at ha
    subst ha
  · exact ⟨_, by simp only [Op.unary, Op.intArith]; rfl, rfl⟩
  · exact ⟨_, by simp only [Op.unary, Op.intBits]; rfl, rfl⟩
  · exact ⟨_, by simp only [Op.unary]; rfl, rfl⟩

omit hR in
theorem len_rel {t : TypeId} {x v : AV} (hR : Rel μ H w) (h : alen T H t x = some v) {a : Value} (ha : VRel μ x a) (ts : Array TypeId) (ht : ts[0]? = some t) (ty : TypeId) :
    ∃ v', (Builtin.len_ ts ty #[a]).run P w = .ok v' w ∧ VRel μ v v' := by
  unfold alen at h
  split at h
  · cases h
  · rename_i d hd
    have hu := r_under hT hd w
    split at h
    · rename_i s hdd; cases h; simp only [VRel] at ha; subst ha
      exact ⟨.int .i64 (s.size), by simp [Builtin.len_, ht, hu, hdd, goInt], rfl⟩
    · rename_i e b o n hdd; cases h; simp only [VRel] at ha; obtain ⟨q, c, rfl, _⟩ := ha
      exact ⟨.int .i64 (n), by simp [Builtin.len_, ht, hu, hdd, goInt], rfl⟩
    · rename_i e hdd; cases h; simp only [VRel] at ha; subst ha
      exact ⟨.int .i64 (0), by simp [Builtin.len_, ht, hu, hdd, goInt], rfl⟩
    · rename_i n e hdd; cases h
      exact ⟨.int .i64 (n), by simp [Builtin.len_, ht, hu, hdd, goInt], rfl⟩
    · rename_i k e hdd; cases h; simp only [VRel] at ha; subst ha
      exact ⟨.int .i64 (0), by simp [Builtin.len_, ht, hu, hdd, goInt], rfl⟩
    · rename_i k e b hdd
      split at h
      · rename_i es hb
        cases h; simp only [VRel] at ha; obtain ⟨p, hp, rfl⟩ := ha
        obtain ⟨ents, cl, h1, h2, _⟩ := hR.maps b p es hp hb
        refine ⟨.int .i64 ents.size, by simp [Builtin.len_, ht, hu, hdd, getObj, Sem.run, h1, goInt], ?_⟩
        simp only [VRel]
        rw [← h2]; simp
      · cases h
    · cases h

end
end Go.Proofs.Ytopbfmhajbjepaa
