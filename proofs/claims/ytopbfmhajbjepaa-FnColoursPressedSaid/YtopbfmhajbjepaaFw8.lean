/- The remaining makers of memory, and all operations together. -/
import Derived.Test.YtopbfmhajbjepaaFw7
namespace Go.Proofs.Ytopbfmhajbjepaa
open Go
set_option linter.unusedSectionVars false
set_option linter.unusedSimpArgs false
set_option linter.unusedVariables false

theorem rep_get {α : Type} (z : List α) (hs : 0 < z.length) : ∀ (l i : Nat), i < l * z.length → (List.replicate l z).flatten[i]? = z[i % z.length]?
  | 0, i, h => by simp at h
  | l + 1, i, h => by
    rw [List.replicate_succ, List.flatten_cons]
    by_cases hi : i < z.length
    · rw [List.getElem?_append_left hi, Nat.mod_eq_of_lt hi]
    · rw [Nat.add_mul, Nat.one_mul] at h
      rw [List.getElem?_append_right (by omega), rep_get z hs l (i - z.length) (by omega), Nat.mod_eq_sub_mod (show z.length ≤ i by omega)]

theorem rep_len {α : Type} (z : List α) (l : Nat) : (List.replicate l z).flatten.length = l * z.length := by simp

theorem VRels.rep {μ : Mu} {zs : List AV} {z : Array Value} (h : VRels μ zs z.toList) (hs : 0 < zs.length) (l : Nat) :
    VRels μ (List.replicate l zs).flatten ((Array.range (l * zs.length)).map fun i => z[i % z.size]!).toList := by
  have hl := VRels.length _ _ h
  have hz : z.size = zs.length := by simpa using hl
  apply VRels.of
  · simp
  · intro i x hi
    have hlt := (List.getElem?_eq_some_iff.1 hi).1
    rw [rep_len] at hlt
    rw [rep_get zs hs l i hlt] at hi
    obtain ⟨y, hy, hr⟩ := VRels.get _ _ h _ x hi
    refine ⟨y, ?_, hr⟩
    have : z[i % zs.length]? = some y := by simpa using hy
    have hm := (Array.getElem?_eq_some_iff.1 this)
    obtain ⟨hm1, hm2⟩ := hm
    simp only [Array.toList_map, Array.toList_range, List.getElem?_map, List.getElem?_range hlt, Option.map_some, hz]
    rw [getElem!_pos z _ hm1, hm2]

theorem wrap_i64 {n : Int} (h1 : -9223372036854775808 ≤ n) (h2 : n ≤ 9223372036854775807) : IntKind.i64.wrap n = n := by
  have h : IntKind.i64.wrap n = (if n % 18446744073709551616 ≥ 9223372036854775808 then n % 18446744073709551616 - 18446744073709551616 else n % 18446744073709551616) := by
    simp [IntKind.wrap, IntKind.bits, IntKind.signed]
  rw [h]
  split <;> omega

theorem map_range_zero (f : Nat → Value) : Array.map f (Array.range 0) = #[] := by
  apply Array.ext'
  simp

section
variable {P : Program} {T : TT} (hT : ∀ t d, T t = some d → TDOK P t d) {μ : Mu} {H : AH} {w : World}
include hT

theorem makeSlice_rel (hR : Rel μ H w) {t : TypeId} {l c v : AV} {H' : AH} (h : amakeSlice T H t l c = some (v, H')) (hf : Free μ H.size H'.size) {a b : Value} (ha : VRel μ l a) (hb : VRel μ c b) :
    ∃ v' μ' w', (Instr.makeSlice t a b).run P w = .ok v' w' ∧ Conc μ μ' H H' w w' ∧ VRel μ' v v' := by
  unfold amakeSlice at h
  split at h
  · rename_i d k l k' c hd
    split at h
    · rename_i e hde
      split at h
      · rename_i de he
        split at h
        · rename_i hc
          cases h
          obtain ⟨h0, rfl, hby, h63, hsz⟩ := hc
          simp only [VRel] at ha hb
          subst ha; subst hb
          obtain ⟨_, _, ie, z, hie, hse, hbe, hze, hz1, hz2, _⟩ := hT e de he
          have hw : IntKind.i64.wrap l = l := wrap_i64 (by omega) h63
          have hpos : 0 < de.zero.length := by rw [hz2]; exact hsz
          have hrep := VRels.rep (VRels.none (μ := μ) hz1) hpos l.toNat
          rw [hz2] at hrep
          have hC := push_rel (P := P) (T := T) hT hR hf (e := de.size) (t := e) hrep
          refine ⟨.slice (some ⟨w.heap.size, 0, none⟩) l.toNat l.toNat, _, _, ?_, hC, ?_⟩
          · have t1 : ¬ (281474976710656 : Int) < (ie.bytes : Int) * l := by rw [hbe, Int.mul_comm]; omega
            have t2 : ¬ l < 0 := by omega
            by_cases hn : l.toNat * de.size = 0
            · have hl0 : l.toNat = 0 := by
                rcases Nat.mul_eq_zero.1 hn with k | k
                · exact k
                · omega
              have hl1 : l = 0 := by omega
              subst hl1
              simp [Instr.makeSlice, r_under hT hd, hde, asInt, asIntOf, typeInfo, hie, hw, sizeOf, hse, newRow, map_range_zero]
            · have hl2 : ¬ l.toNat = 0 := by intro k; rw [k] at hn; simp at hn
              have hl3 : ¬ l ≤ 0 := by omega
              have hs0 : ¬ de.size = 0 := by omega
              simp [Instr.makeSlice, r_under hT hd, hde, asInt, asIntOf, typeInfo, hie, hw, sizeOf, hse, newRow, t1, t2, hl3, hs0, zeroValue, hze]
              exact fun k => absurd k hn
          · simp only [VRel]
            refine ⟨_, _, rfl, Nat.le_refl _, .inr ⟨_, Mu.set_same _ _ _, rfl, by simp⟩⟩
        · cases h
      · cases h
    · cases h
  · cases h

theorem buildSlice_rel (hR : Rel μ H w) {tm : Tm} {ρ : Operand → Value} (hρ : ∀ x, VRel μ (ev tm x) (ρ x)) {t : TypeId} {len : Nat} {parts : Array (Nat × Operand)} {v : AV} {H' : AH}
    (h : abuildSlice T H t len (parts.toList.map fun (i, x) => (i, ev tm x)) = some (v, H')) (hf : Free μ H.size H'.size) :
    ∃ v' μ' w', (Instr.buildSlice t len (parts.map fun (i, x) => (i, ρ x))).run P w = .ok v' w' ∧ Conc μ μ' H H' w w' ∧ VRel μ' v v' := by
  obtain ⟨hl, hx⟩ := parts_rel hρ parts
  unfold abuildSlice at h
  split at h
  · rename_i d hd
    split at h
    · rename_i e hde
      split at h
      · rename_i de he
        split at h
        · cases h
        · rename_i hc
          split at h
          · rename_i cells hfl
            cases h
            obtain ⟨_, _, ie, z, hie, hse, hbe, hze, hz1, hz2, _⟩ := hT e de he
            have hs0 : de.size ≠ 0 := by intro k; exact hc (.inr k)
            have hpos : 0 < de.zero.length := by omega
            have hbig : ¬ len * de.size > 16777216 := by intro k; exact hc (.inl k)
            have hrep := VRels.rep (VRels.none (μ := μ) hz1) hpos len
            rw [hz2] at hrep
            obtain ⟨arr', ha, hr⟩ := fill_rel (μ := μ) (fun i => some (i * de.size, de.size)) (fun i => some (i * de.size, de.size)) (fun _ => rfl) _ _ _ _ _ hrep hl hx hfl
            have hC := push_rel (P := P) (T := T) hT hR hf (e := de.size) (t := e) hr
            have hcl := VRels.length _ _ hr
            have hln : arr'.size = len * de.size := by
              have fl : ∀ (pl : Nat → Option (Nat × Nat)) (ps : List (Nat × AV)) (cs cs' : List AV), afill pl cs ps = some cs' → cs'.length = cs.length := by
                intro pl ps
                induction ps with
                | nil => intro cs cs' h; simp [afill] at h; rw [h]
                | cons p ps ih =>
                  intro cs cs' h
                  simp only [afill] at h
                  split at h
                  · cases h
                  · split at h
                    · cases h
                    · rename_i hh
                      rw [ih _ _ h]
                      unfold splice
                      rw [over_len]
                      rcases Nat.lt_or_ge cs.length (_ + p.2.cells.length) with k | k
                      · exact absurd (.inr (.inl k)) hh
                      · exact k
              have h1 := fl _ _ _ _ hfl
              rw [rep_len, hz2] at h1
              simp at hcl
              omega
            refine ⟨.slice (some ⟨w.heap.size, 0, none⟩) len len, _, _, ?_, hC, ?_⟩
            · by_cases hn : len * de.size = 0
              · have hl0 : len = 0 := by
                  rcases Nat.mul_eq_zero.1 hn with k | k
                  · exact k
                  · omega
                subst hl0
                simp only [Nat.zero_mul] at ha
                have ha' : Instr.fill (fun i => some (i * de.size, de.size)) #[] (parts.map fun (i, x) => (i, ρ x)).toList = some arr' := by simpa [map_range_zero] using ha
                simp only [Array.toList_map] at ha'
                simp [Instr.buildSlice, r_under hT hd, hde, r_size hT he, newRow, map_range_zero, ha']
              · have hl2 : ¬ len = 0 := by intro k; rw [k] at hn; simp at hn
                simp only [Array.toList_map] at ha
                simp [Instr.buildSlice, r_under hT hd, hde, r_size hT he, newRow, ha, hl2, hs0, zeroValue, typeInfo, hie, hze, hbig]
                omega
            · simp only [VRel]
              refine ⟨_, _, rfl, Nat.le_refl _, .inr ⟨_, Mu.set_same _ _ _, rfl, ?_⟩⟩
              show 0 + 0 + len * de.size ≤ arr'.size
              omega
          · cases h
      · cases h
    · cases h
  · cases h

end
end Go.Proofs.Ytopbfmhajbjepaa
