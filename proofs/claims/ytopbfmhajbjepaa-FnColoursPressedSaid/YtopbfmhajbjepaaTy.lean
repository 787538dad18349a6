/- The types of the program that its operations name, written by wip/tools/gentypes.py. -/
import Derived.Test.YtopbfmhajbjepaaFw14
import Derived.Test.YtopbfmhajbjepaaChecked
namespace Go.Proofs.Ytopbfmhajbjepaa
open Go
set_option linter.unusedSimpArgs false

theorem tdok_of {P : Program} {t : TypeId} {d : TD} {z : Value} (h1 : P.underlying t = some d.d) (h2 : d.agg = (match d.d with | .struct _ | .array _ _ => true | _ => false))
    (h3 : (P.info? t).map (fun i => (i.zero, i.size, i.bytes)) = some (some z, d.size, d.bytes)) (h4 : VRels (fun _ => none) d.zero z.cells.toList) (h5 : d.zero.length = d.size) (h6 : VRel (fun _ => none) d.zv z) : TDOK P t d := by
  cases hi : P.info? t with
  | none => rw [hi] at h3; simp at h3
  | some i =>
    rw [hi] at h3
    simp at h3
    exact ⟨h1, h2, i, z, hi, h3.2.1, h3.2.2, h3.1, h4, h5, h6⟩

def td3 : TD := { d := (Go.TypeDesc.int Go.IntKind.i64), agg := false, size := 1, bytes := 8, zero := [.int .i64 0] }
theorem tdok3 : TDOK Try.prog 3 td3 := tdok_of (z := (Go.Value.int Go.IntKind.i64 0)) (by kernel_rfl) rfl (by kernel_rfl) (by simp [td3, VRels, VRel, Value.cells]) rfl (by simp [td3, TD.zv, VRels, VRel])
def td4 : TD := { d := Go.TypeDesc.bool, agg := false, size := 1, bytes := 1, zero := [.bool false] }
theorem tdok4 : TDOK Try.prog 4 td4 := tdok_of (z := (Go.Value.bool false)) (by kernel_rfl) rfl (by kernel_rfl) (by simp [td4, VRels, VRel, Value.cells]) rfl (by simp [td4, TD.zv, VRels, VRel])
def td5 : TD := { d := (Go.TypeDesc.int Go.IntKind.u8), agg := false, size := 1, bytes := 1, zero := [.int .u8 0] }
theorem tdok5 : TDOK Try.prog 5 td5 := tdok_of (z := (Go.Value.int Go.IntKind.u8 0)) (by kernel_rfl) rfl (by kernel_rfl) (by simp [td5, VRels, VRel, Value.cells]) rfl (by simp [td5, TD.zv, VRels, VRel])
def td9 : TD := { d := Go.TypeDesc.string, agg := false, size := 1, bytes := 16, zero := [.str ⟨#[]⟩] }
theorem tdok9 : TDOK Try.prog 9 td9 := tdok_of (z := (Go.Value.string { data := #[] })) (by kernel_rfl) rfl (by kernel_rfl) (by simp [td9, VRels, VRel, Value.cells]) rfl (by simp [td9, TD.zv, VRels, VRel])
def td22 : TD := { d := (Go.TypeDesc.slice 3), agg := false, size := 1, bytes := 24, zero := [.nilsl] }
theorem tdok22 : TDOK Try.prog 22 td22 := tdok_of (z := (Go.Value.slice none 0 0)) (by kernel_rfl) rfl (by kernel_rfl) (by simp [td22, VRels, VRel, Value.cells]) rfl (by simp [td22, TD.zv, VRels, VRel])
def td24 : TD := { d := (Go.TypeDesc.struct #[{ name := "Near", type := 22, offset := 0, embedded := false, tag := "", pkgPath := "", byteOffset := 0 }, { name := "Own", type := 4, offset := 1, embedded := false, tag := "", pkgPath := "", byteOffset := 24 }]), agg := true, size := 2, bytes := 32, zero := [.nilsl, .bool false] }
theorem tdok24 : TDOK Try.prog 24 td24 := tdok_of (z := (Go.Value.agg #[(Go.Value.slice none 0 0), (Go.Value.bool false)])) (by kernel_rfl) rfl (by kernel_rfl) (by simp [td24, VRels, VRel, Value.cells]) rfl (by simp [td24, TD.zv, VRels, VRel])
def td26 : TD := { d := (Go.TypeDesc.struct #[{ name := "Near", type := 22, offset := 0, embedded := false, tag := "", pkgPath := "", byteOffset := 0 }, { name := "Own", type := 4, offset := 1, embedded := false, tag := "", pkgPath := "", byteOffset := 24 }]), agg := true, size := 2, bytes := 32, zero := [.nilsl, .bool false] }
theorem tdok26 : TDOK Try.prog 26 td26 := tdok_of (z := (Go.Value.agg #[(Go.Value.slice none 0 0), (Go.Value.bool false)])) (by kernel_rfl) rfl (by kernel_rfl) (by simp [td26, VRels, VRel, Value.cells]) rfl (by simp [td26, TD.zv, VRels, VRel])
def td38 : TD := { d := (Go.TypeDesc.slice 5), agg := false, size := 1, bytes := 24, zero := [.nilsl] }
theorem tdok38 : TDOK Try.prog 38 td38 := tdok_of (z := (Go.Value.slice none 0 0)) (by kernel_rfl) rfl (by kernel_rfl) (by simp [td38, VRels, VRel, Value.cells]) rfl (by simp [td38, TD.zv, VRels, VRel])
def td66 : TD := { d := (Go.TypeDesc.slice 22), agg := false, size := 1, bytes := 24, zero := [.nilsl] }
theorem tdok66 : TDOK Try.prog 66 td66 := tdok_of (z := (Go.Value.slice none 0 0)) (by kernel_rfl) rfl (by kernel_rfl) (by simp [td66, VRels, VRel, Value.cells]) rfl (by simp [td66, TD.zv, VRels, VRel])
def td87 : TD := { d := (Go.TypeDesc.func #[3] #[4] false), agg := false, size := 1, bytes := 8, zero := [.nilfn] }
theorem tdok87 : TDOK Try.prog 87 td87 := tdok_of (z := Go.Value.nilFunc) (by kernel_rfl) rfl (by kernel_rfl) (by simp [td87, VRels, VRel, Value.cells]) rfl (by simp [td87, TD.zv, VRels, VRel])
def td94 : TD := { d := (Go.TypeDesc.func #[3, 3] #[3] false), agg := false, size := 1, bytes := 8, zero := [.nilfn] }
theorem tdok94 : TDOK Try.prog 94 td94 := tdok_of (z := Go.Value.nilFunc) (by kernel_rfl) rfl (by kernel_rfl) (by simp [td94, VRels, VRel, Value.cells]) rfl (by simp [td94, TD.zv, VRels, VRel])
def td96 : TD := { d := (Go.TypeDesc.pointer 99), agg := false, size := 1, bytes := 8, zero := [.nilptr] }
theorem tdok96 : TDOK Try.prog 96 td96 := tdok_of (z := (Go.Value.pointer none)) (by kernel_rfl) rfl (by kernel_rfl) (by simp [td96, VRels, VRel, Value.cells]) rfl (by simp [td96, TD.zv, VRels, VRel])
def td97 : TD := { d := (Go.TypeDesc.int Go.IntKind.u64), agg := false, size := 1, bytes := 8, zero := [.int .u64 0] }
theorem tdok97 : TDOK Try.prog 97 td97 := tdok_of (z := (Go.Value.int Go.IntKind.u64 0)) (by kernel_rfl) rfl (by kernel_rfl) (by simp [td97, VRels, VRel, Value.cells]) rfl (by simp [td97, TD.zv, VRels, VRel])
def td99 : TD := { d := (Go.TypeDesc.struct #[{ name := "code", type := 38, offset := 0, embedded := false, tag := "", pkgPath := "loop.example/g01146/spec", byteOffset := 0 }, { name := "at", type := 3, offset := 1, embedded := false, tag := "", pkgPath := "loop.example/g01146/spec", byteOffset := 24 }, { name := "seed", type := 97, offset := 2, embedded := false, tag := "", pkgPath := "loop.example/g01146/spec", byteOffset := 32 }]), agg := true, size := 3, bytes := 40, zero := [.nilsl, .int .i64 0, .int .u64 0] }
theorem tdok99 : TDOK Try.prog 99 td99 := tdok_of (z := (Go.Value.agg #[(Go.Value.slice none 0 0), (Go.Value.int Go.IntKind.i64 0), (Go.Value.int Go.IntKind.u64 0)])) (by kernel_rfl) rfl (by kernel_rfl) (by simp [td99, VRels, VRel, Value.cells]) rfl (by simp [td99, TD.zv, VRels, VRel])
def td112 : TD := { d := (Go.TypeDesc.slice 134), agg := false, size := 1, bytes := 24, zero := [.nilsl] }
theorem tdok112 : TDOK Try.prog 112 td112 := tdok_of (z := (Go.Value.slice none 0 0)) (by kernel_rfl) rfl (by kernel_rfl) (by simp [td112, VRels, VRel, Value.cells]) rfl (by simp [td112, TD.zv, VRels, VRel])
def td114 : TD := { d := (Go.TypeDesc.struct #[{ name := "pairs", type := 112, offset := 0, embedded := false, tag := "", pkgPath := "loop.example/g01146/impl", byteOffset := 0 }, { name := "quiet", type := 22, offset := 1, embedded := false, tag := "", pkgPath := "loop.example/g01146/impl", byteOffset := 24 }, { name := "image", type := 22, offset := 2, embedded := false, tag := "", pkgPath := "loop.example/g01146/impl", byteOffset := 48 }]), agg := true, size := 3, bytes := 72, zero := [.nilsl, .nilsl, .nilsl] }
theorem tdok114 : TDOK Try.prog 114 td114 := tdok_of (z := (Go.Value.agg #[(Go.Value.slice none 0 0), (Go.Value.slice none 0 0), (Go.Value.slice none 0 0)])) (by kernel_rfl) rfl (by kernel_rfl) (by simp [td114, VRels, VRel, Value.cells]) rfl (by simp [td114, TD.zv, VRels, VRel])
def td115 : TD := { d := (Go.TypeDesc.pointer 114), agg := false, size := 1, bytes := 8, zero := [.nilptr] }
theorem tdok115 : TDOK Try.prog 115 td115 := tdok_of (z := (Go.Value.pointer none)) (by kernel_rfl) rfl (by kernel_rfl) (by simp [td115, VRels, VRel, Value.cells]) rfl (by simp [td115, TD.zv, VRels, VRel])
def td127 : TD := { d := (Go.TypeDesc.map 128 4), agg := false, size := 1, bytes := 8, zero := [.nilmap] }
theorem tdok127 : TDOK Try.prog 127 td127 := tdok_of (z := (Go.Value.map none)) (by kernel_rfl) rfl (by kernel_rfl) (by simp [td127, VRels, VRel, Value.cells]) rfl (by simp [td127, TD.zv, VRels, VRel])
def td128 : TD := { d := (Go.TypeDesc.array 2 3), agg := true, size := 2, bytes := 16, zero := [.int .i64 0, .int .i64 0] }
theorem tdok128 : TDOK Try.prog 128 td128 := tdok_of (z := (Go.Value.agg #[(Go.Value.int Go.IntKind.i64 0), (Go.Value.int Go.IntKind.i64 0)])) (by kernel_rfl) rfl (by kernel_rfl) (by simp [td128, VRels, VRel, Value.cells]) rfl (by simp [td128, TD.zv, VRels, VRel])
def td130 : TD := { d := (Go.TypeDesc.int Go.IntKind.u64), agg := false, size := 1, bytes := 8, zero := [.int .u64 0] }
theorem tdok130 : TDOK Try.prog 130 td130 := tdok_of (z := (Go.Value.int Go.IntKind.u64 0)) (by kernel_rfl) rfl (by kernel_rfl) (by simp [td130, VRels, VRel, Value.cells]) rfl (by simp [td130, TD.zv, VRels, VRel])
def td134 : TD := { d := (Go.TypeDesc.struct #[{ name := "effect", type := 3, offset := 0, embedded := false, tag := "", pkgPath := "loop.example/g01146/impl", byteOffset := 0 }, { name := "presses", type := 3, offset := 1, embedded := false, tag := "", pkgPath := "loop.example/g01146/impl", byteOffset := 8 }]), agg := true, size := 2, bytes := 16, zero := [.int .i64 0, .int .i64 0] }
theorem tdok134 : TDOK Try.prog 134 td134 := tdok_of (z := (Go.Value.agg #[(Go.Value.int Go.IntKind.i64 0), (Go.Value.int Go.IntKind.i64 0)])) (by kernel_rfl) rfl (by kernel_rfl) (by simp [td134, VRels, VRel, Value.cells]) rfl (by simp [td134, TD.zv, VRels, VRel])
def td145 : TD := { d := (Go.TypeDesc.func #[134] #[4] false), agg := false, size := 1, bytes := 8, zero := [.nilfn] }
theorem tdok145 : TDOK Try.prog 145 td145 := tdok_of (z := Go.Value.nilFunc) (by kernel_rfl) rfl (by kernel_rfl) (by simp [td145, VRels, VRel, Value.cells]) rfl (by simp [td145, TD.zv, VRels, VRel])
def td147 : TD := { d := (Go.TypeDesc.pointer 149), agg := false, size := 1, bytes := 8, zero := [.nilptr] }
theorem tdok147 : TDOK Try.prog 147 td147 := tdok_of (z := (Go.Value.pointer none)) (by kernel_rfl) rfl (by kernel_rfl) (by simp [td147, VRels, VRel, Value.cells]) rfl (by simp [td147, TD.zv, VRels, VRel])
def td149 : TD := { d := (Go.TypeDesc.struct #[{ name := "rows", type := 22, offset := 0, embedded := false, tag := "", pkgPath := "loop.example/g01146/spec", byteOffset := 0 }, { name := "want", type := 22, offset := 1, embedded := false, tag := "", pkgPath := "loop.example/g01146/spec", byteOffset := 24 }]), agg := true, size := 2, bytes := 48, zero := [.nilsl, .nilsl] }
theorem tdok149 : TDOK Try.prog 149 td149 := tdok_of (z := (Go.Value.agg #[(Go.Value.slice none 0 0), (Go.Value.slice none 0 0)])) (by kernel_rfl) rfl (by kernel_rfl) (by simp [td149, VRels, VRel, Value.cells]) rfl (by simp [td149, TD.zv, VRels, VRel])
def td154 : TD := { d := (Go.TypeDesc.int Go.IntKind.u32), agg := false, size := 1, bytes := 4, zero := [.int .u32 0] }
theorem tdok154 : TDOK Try.prog 154 td154 := tdok_of (z := (Go.Value.int Go.IntKind.u32 0)) (by kernel_rfl) rfl (by kernel_rfl) (by simp [td154, VRels, VRel, Value.cells]) rfl (by simp [td154, TD.zv, VRels, VRel])
def td159 : TD := { d := (Go.TypeDesc.int Go.IntKind.i64), agg := false, size := 1, bytes := 8, zero := [.int .i64 0] }
theorem tdok159 : TDOK Try.prog 159 td159 := tdok_of (z := (Go.Value.int Go.IntKind.i64 0)) (by kernel_rfl) rfl (by kernel_rfl) (by simp [td159, VRels, VRel, Value.cells]) rfl (by simp [td159, TD.zv, VRels, VRel])
def td165 : TD := { d := (Go.TypeDesc.int Go.IntKind.u64), agg := false, size := 1, bytes := 8, zero := [.int .u64 0] }
theorem tdok165 : TDOK Try.prog 165 td165 := tdok_of (z := (Go.Value.int Go.IntKind.u64 0)) (by kernel_rfl) rfl (by kernel_rfl) (by simp [td165, VRels, VRel, Value.cells]) rfl (by simp [td165, TD.zv, VRels, VRel])
def td169 : TD := { d := (Go.TypeDesc.pointer 3), agg := false, size := 1, bytes := 8, zero := [.nilptr] }
theorem tdok169 : TDOK Try.prog 169 td169 := tdok_of (z := (Go.Value.pointer none)) (by kernel_rfl) rfl (by kernel_rfl) (by simp [td169, VRels, VRel, Value.cells]) rfl (by simp [td169, TD.zv, VRels, VRel])
def tlist : List (Nat × TD) := [(3, td3), (4, td4), (5, td5), (9, td9), (22, td22), (24, td24), (26, td26), (38, td38), (66, td66), (87, td87), (94, td94), (96, td96), (97, td97), (99, td99), (112, td112), (114, td114), (115, td115), (127, td127), (128, td128), (130, td130), (134, td134), (145, td145), (147, td147), (149, td149), (154, td154), (159, td159), (165, td165), (169, td169)]
def TA : TT := fun t => (tlist.find? (fun p => p.1 == t)).map (·.2)
@[go_sem] theorem TA_3 : TA 3 = some td3 := rfl
@[go_sem] theorem TA_4 : TA 4 = some td4 := rfl
@[go_sem] theorem TA_5 : TA 5 = some td5 := rfl
@[go_sem] theorem TA_9 : TA 9 = some td9 := rfl
@[go_sem] theorem TA_22 : TA 22 = some td22 := rfl
@[go_sem] theorem TA_24 : TA 24 = some td24 := rfl
@[go_sem] theorem TA_26 : TA 26 = some td26 := rfl
@[go_sem] theorem TA_38 : TA 38 = some td38 := rfl
@[go_sem] theorem TA_66 : TA 66 = some td66 := rfl
@[go_sem] theorem TA_87 : TA 87 = some td87 := rfl
@[go_sem] theorem TA_94 : TA 94 = some td94 := rfl
@[go_sem] theorem TA_96 : TA 96 = some td96 := rfl
@[go_sem] theorem TA_97 : TA 97 = some td97 := rfl
@[go_sem] theorem TA_99 : TA 99 = some td99 := rfl
@[go_sem] theorem TA_112 : TA 112 = some td112 := rfl
@[go_sem] theorem TA_114 : TA 114 = some td114 := rfl
@[go_sem] theorem TA_115 : TA 115 = some td115 := rfl
@[go_sem] theorem TA_127 : TA 127 = some td127 := rfl
@[go_sem] theorem TA_128 : TA 128 = some td128 := rfl
@[go_sem] theorem TA_130 : TA 130 = some td130 := rfl
@[go_sem] theorem TA_134 : TA 134 = some td134 := rfl
@[go_sem] theorem TA_145 : TA 145 = some td145 := rfl
@[go_sem] theorem TA_147 : TA 147 = some td147 := rfl
@[go_sem] theorem TA_149 : TA 149 = some td149 := rfl
@[go_sem] theorem TA_154 : TA 154 = some td154 := rfl
@[go_sem] theorem TA_159 : TA 159 = some td159 := rfl
@[go_sem] theorem TA_165 : TA 165 = some td165 := rfl
@[go_sem] theorem TA_169 : TA 169 = some td169 := rfl
theorem tlist_ok : ∀ p ∈ tlist, TDOK Try.prog p.1 p.2 := by
  intro p hp
  simp only [tlist, List.mem_cons, List.not_mem_nil, or_false] at hp
  rcases hp with rfl | rfl | rfl | rfl | rfl | rfl | rfl | rfl | rfl | rfl | rfl | rfl | rfl | rfl | rfl | rfl | rfl | rfl | rfl | rfl | rfl | rfl | rfl | rfl | rfl | rfl | rfl | rfl
  · exact tdok3
  · exact tdok4
  · exact tdok5
  · exact tdok9
  · exact tdok22
  · exact tdok24
  · exact tdok26
  · exact tdok38
  · exact tdok66
  · exact tdok87
  · exact tdok94
  · exact tdok96
  · exact tdok97
  · exact tdok99
  · exact tdok112
  · exact tdok114
  · exact tdok115
  · exact tdok127
  · exact tdok128
  · exact tdok130
  · exact tdok134
  · exact tdok145
  · exact tdok147
  · exact tdok149
  · exact tdok154
  · exact tdok159
  · exact tdok165
  · exact tdok169
theorem TA_ok : ∀ t d, TA t = some d → TDOK Try.prog t d := by
  intro t d h
  unfold TA at h
  obtain ⟨p, hp, e⟩ := map_some_inv h
  have h1 := List.mem_of_find?_eq_some hp
  have h2 := List.find?_some hp
  have h3 : p.1 = t := by simpa using h2
  subst e
  subst h3
  exact tlist_ok p h1
end Go.Proofs.Ytopbfmhajbjepaa
