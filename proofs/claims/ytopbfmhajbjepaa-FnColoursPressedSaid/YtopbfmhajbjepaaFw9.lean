/- Every operation that calls no function: the machine does what the abstract operation says. -/
import Derived.Test.YtopbfmhajbjepaaFw8
namespace Go.Proofs.Ytopbfmhajbjepaa
open Go
set_option linter.unusedSectionVars false
set_option linter.unusedSimpArgs false
set_option linter.unusedVariables false

/-- What an operation has done. -/
def Did (P : Program) (ρ : Operand → Value) (o : Oper) (μ : Mu) (H H' : AH) (w : World) (v : AV) : Prop :=
  ∃ nx μ' w', (execOp ρ o).run P w = .ok nx w' ∧ Conc μ μ' H H' w w' ∧ ((nx = .skip ∧ v = .undef) ∨ ∃ v', nx = .value v' ∧ VRel μ' v v')

theorem map_some_inv {α β : Type} {x : Option α} {f : α → β} {y : β} (h : x.map f = some y) : ∃ a, x = some a ∧ f a = y := by
  cases x with
  | none => cases h
  | some a => exact ⟨a, rfl, by simpa using h⟩

section
variable {P : Program} {T : TT} (hT : ∀ t d, T t = some d → TDOK P t d) {μ : Mu} {H : AH} {w : World}
include hT

set_option maxHeartbeats 4000000 in
theorem aop_sound (hR : Rel μ H w) {tm : Tm} {ρ : Operand → Value} (hρ : ∀ x, VRel μ (ev tm x) (ρ x)) {o : Oper} {v : AV} {H' : AH} (h : aop T tm H o.op = some (v, H'))
    (hf : Free μ H.size H'.size) : Did P ρ o μ H H' w v := by
  -- a value, memory as it was
  have pureV : ∀ {s : Sem Value} {x : Option AV}, (execOp ρ o = (do pure (.value (← s)) : Sem Next)) → x.map (fun v => (v, H)) = some (v, H') →
      (∀ u, x = some u → ∃ v', s.run P w = .ok v' w ∧ VRel μ u v') → Did P ρ o μ H H' w v := by
    intro s x he hx hr
    obtain ⟨u, hu, e⟩ := map_some_inv hx
    cases e
    obtain ⟨v', hv, hv2⟩ := hr _ hu
    exact ⟨.value v', μ, w, by rw [he]; simp only [Sem.run_bind, hv, Result.andThen_ok, Sem.run_pure], .refl hR, .inr ⟨v', rfl, hv2⟩⟩
  -- a value, and memory
  have memV : ∀ {s : Sem Value}, (execOp ρ o = (do pure (.value (← s)) : Sem Next)) →
      (∃ v' μ' w', s.run P w = .ok v' w' ∧ Conc μ μ' H H' w w' ∧ VRel μ' v v') → Did P ρ o μ H H' w v := by
    intro s he ⟨v', μ', w', hv, hc, hr⟩
    exact ⟨.value v', μ', w', by rw [he]; simp only [Sem.run_bind, hv, Result.andThen_ok, Sem.run_pure], hc, .inr ⟨v', rfl, hr⟩⟩
  cases hop : o.op <;> rw [hop] at h <;> simp only [aop] at h <;> first | (cases h; done) | skip
  case move x =>
    cases h
    exact ⟨.value (ρ x), μ, w, by simp [execOp, hop], .refl hR, .inr ⟨_, rfl, hρ x⟩⟩
  case assign x =>
    cases h
    exact ⟨.value (ρ x), μ, w, by simp [execOp, hop], .refl hR, .inr ⟨_, rfl, hρ x⟩⟩
  case pick c a b =>
    split at h
    · rename_i t ht
      cases h
      have hc := hρ c
      rw [ht] at hc
      simp only [VRel] at hc
      cases t
      · exact ⟨.value (ρ b), μ, w, by simp [execOp, hop, hc, asBool], .refl hR, .inr ⟨_, rfl, hρ b⟩⟩
      · exact ⟨.value (ρ a), μ, w, by simp [execOp, hop, hc, asBool], .refl hR, .inr ⟨_, rfl, hρ a⟩⟩
    · cases h
  case alloc t =>
    split at h
    · rename_i d hd
      cases h
      obtain ⟨z, hz, hz1, _⟩ := r_zero hT hd w
      refine memV (s := Instr.alloc t true (.tuple #[])) (by simp [execOp, hop]) ⟨.pointer (some ⟨w.heap.size, 0, none⟩), _, _, ?_, push_rel (P := P) (T := T) hT hR hf (e := d.size) (t := t) (VRels.none hz1), ?_⟩
      · simp [Instr.alloc, hz, newVar_run (P := P) (T := T) hT]
      · exact ⟨_, Mu.set_same _ _ _, rfl⟩
    · cases h
  case box t x =>
    split at h
    · rename_i hk
      cases h
      have hcr := cells_rel (hρ x) hk
      refine memV (s := Instr.box t (ρ x)) (by simp [execOp, hop]) ⟨.pointer (some ⟨w.heap.size, 0, none⟩), _, _, ?_, push_rel (P := P) (T := T) hT hR hf (e := _) (t := t) hcr, ?_⟩
      · simp [Instr.box, newVar_run (P := P) (T := T) hT]
      · exact ⟨_, Mu.set_same _ _ _, rfl⟩
    · cases h
  case build t parts =>
    exact pureV (s := Instr.build t (parts.map fun (i, x) => (i, ρ x))) (by simp [execOp, hop]) h fun u hu => build_rel hT hρ hu
  case buildSlice t len parts =>
    exact memV (s := Instr.buildSlice t len (parts.map fun (i, x) => (i, ρ x))) (by simp [execOp, hop]) (buildSlice_rel hT hR hρ h hf)
  case load t a =>
    split at h
    · rename_i d b o' hd ha
      have hp := hρ a
      rw [ha] at hp
      exact pureV (s := Instr.loadAt t (ρ a)) (by simp [execOp, hop]) h fun u hu => load_rel hT hR hd hu hp
    · cases h
  case store t a x =>
    split at h
    · rename_i d b o' hd ha
      have hp := hρ a
      rw [ha] at hp
      obtain ⟨H1, hs, e⟩ := map_some_inv h
      cases e
      obtain ⟨w', hr, hc⟩ := store_rel hT hR hd hs hp (hρ x)
      exact ⟨.skip, μ, w', by simp [execOp, hop, hr], hc, .inl ⟨rfl, rfl⟩⟩
    · cases h
  case nilCheck x =>
    split at h
    · rename_i b o' ha
      cases h
      have hp := hρ x
      rw [ha] at hp
      obtain ⟨p, hp1, hp2⟩ := hp
      exact ⟨.value (ρ x), μ, w, by simp [execOp, hop, hp2], .refl hR, .inr ⟨_, rfl, p, hp1, hp2⟩⟩
    · cases h
  case binOp op t x y t' =>
    exact pureV (s := do eqGuard op t x y (ρ x) (ρ y); binOp op t (ρ x) (ρ y)) (by simp [execOp, hop]) h fun u hu => bin_rel hT hu (hρ x) (hρ y) x y
  case unOp op t x =>
    exact pureV (s := Op.unary op (ρ x)) (by simp [execOp, hop]) h fun u hu => un_rel hu (hρ x)
  case convert src dst x =>
    exact pureV (s := convert src dst (ρ x)) (by simp [execOp, hop]) h fun u hu => conv_rel hT hR hu (hρ x)
  case makeFunc fn first captured =>
    cases fn with
    | func f =>
      simp only at h
      split at h
      · rename_i hfst
        cases h
        refine ⟨.value (.func (.func f) #[] (captured.map ρ)), μ, w, by simp [execOp, hop, Instr.makeFunc, hfst], .refl hR, .inr ⟨_, rfl, captured.map ρ, rfl, ?_⟩⟩
        apply VRels.of
        · simp
        · intro i x hi
          simp only [List.getElem?_map, Option.map_eq_some_iff] at hi
          obtain ⟨y, hy, rfl⟩ := hi
          have hy' : captured[i]? = some y := by simpa using hy
          exact ⟨ρ y, by simp [hy'], hρ y⟩
      · cases h
    | _ => cases h
  case makeSlice t l c =>
    exact memV (s := Instr.makeSlice t (ρ l) (ρ c)) (by simp [execOp, hop]) (makeSlice_rel hT hR h hf (hρ l) (hρ c))
  case slice t x lo hi mx =>
    cases mx with
    | some _ => cases h
    | none =>
      have hO : ∀ q : Option Operand, ORel μ (q.map (ev tm)) (q.map ρ) := by
        intro q
        cases q with
        | none => trivial
        | some q => exact hρ q
      exact pureV (s := Instr.sliceAt t (ρ x) (lo.map ρ) (hi.map ρ) none) (by simp [execOp, hop]) h fun u hu => slice_rel hT hR (hO lo) (hO hi) hu (hρ x)
  case fieldAddr t x f =>
    exact pureV (s := Instr.fieldAt t (ρ x) f) (by simp [execOp, hop]) h fun u hu => fieldAddr_rel hT hR hu (hρ x)
  case field t x f =>
    exact pureV (s := Instr.field t (ρ x) f) (by simp [execOp, hop]) h fun u hu => field_rel hT hR hu (hρ x)
  case indexAddr t x i =>
    exact pureV (s := Instr.indexAt t (ρ x) (ρ i)) (by simp [execOp, hop]) h fun u hu => indexAddr_rel hT hR hu (hρ x) (hρ i)
  case index t x i =>
    exact pureV (s := Instr.index t (ρ x) (ρ i)) (by simp [execOp, hop]) h fun u hu => index_rel hT hR hu (hρ x) (hρ i)
  case extract x i =>
    split at h
    · rename_i vs hv
      have hx := hρ x
      rw [hv] at hx
      simp only [VRel] at hx
      obtain ⟨xs, hxs, hr⟩ := hx
      refine pureV (s := Instr.extract (ρ x) i) (by simp [execOp, hop]) h fun u hu => ?_
      obtain ⟨y, hy, hyr⟩ := VRels.get _ _ hr i u hu
      have hy' : xs[i]? = some y := by simpa using hy
      exact ⟨y, by simp [hxs, Instr.extract, hy'], hyr⟩
    · cases h
  case call c =>
    split at h
    · rename_i b hb
      unfold abuiltin at h
      have hres : resolve ρ c o.type = pure { target := .builtin b c.argTypes o.type (c.args.map fun | .const _ => true | _ => false), args := c.args.map ρ } := by
        unfold resolve; rw [hb]; rfl
      split at h
      · rename_i x hargs
        split at h
        · rename_i t ht
          have ⟨y, hy, hxy⟩ : ∃ y, c.args = #[y] ∧ ev tm y = x := by
            have hl : c.args.toList.length = 1 := by have := congrArg List.length hargs; simpa using this
            match hc : c.args.toList with
            | [y] => rw [hc] at hargs; exact ⟨y, by apply Array.ext'; simpa using hc, by simpa using hargs⟩
            | [] => rw [hc] at hl; simp at hl
            | _ :: _ :: _ => rw [hc] at hl; simp at hl
          refine pureV (s := Builtin.len_ c.argTypes o.type #[ρ y]) ?_ h fun u hu => ?_
          · simp only [execOp, hop, hres, pure_bind, invoke, builtin, hy]
            simp
          · exact len_rel hT hR hu (by rw [← hxy]; exact hρ y) c.argTypes ht o.type
        · cases h
      · rename_i s x hargs
        have ⟨y, z, hy, hs, hx⟩ : ∃ y z, c.args = #[y, z] ∧ ev tm y = s ∧ ev tm z = x := by
          have hl : c.args.toList.length = 2 := by have := congrArg List.length hargs; simpa using this
          match hc : c.args.toList with
          | [y, z] => rw [hc] at hargs; simp at hargs; exact ⟨y, z, by apply Array.ext'; simpa using hc, hargs.1, hargs.2⟩
          | [] => rw [hc] at hl; simp at hl
          | [_] => rw [hc] at hl; simp at hl
          | _ :: _ :: _ :: _ => rw [hc] at hl; simp at hl
        refine memV (s := Builtin.append_ c.argTypes o.type #[ρ y, ρ z]) ?_ (append_rel hT hR h hf o.type (by rw [← hs]; exact hρ y) (by rw [← hx]; exact hρ z))
        simp only [execOp, hop, hres, pure_bind, invoke, builtin, hy]
        simp
      · cases h
    · cases h

end
end Go.Proofs.Ytopbfmhajbjepaa
