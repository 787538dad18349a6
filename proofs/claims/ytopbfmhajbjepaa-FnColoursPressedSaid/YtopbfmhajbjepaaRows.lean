/-
  No cell of these rows narrows 'for every input' (looked for: loops, veiled, ifaces, maps, wideKeys, modest, calm, conditions, laid).
  DERIVED. THE GIVEN ROWS OF THIS SEAT. 9 by the template 'for every input the law returns true; each argument reads behind the call as it read before'; 0 by the template 'total and deterministic' (their statements: YtopbfmhajbjepaaTotals.lean).
  GIVEN WITH THE SEED: the statements are not yours to turn. If you find one false, say at which input.
  Laid BY PROGRAM, IN A SANDBOX (cutbox-rows.mjs): the forced cells as the released guide's own fill.sh prints them over the translation 382d2159c29776f7… (all of the seat's roots in one cut). By AI agents, Wed Nov 11 2026. No macro, syntax, notation, axiom, sorry.
-/
import Derived.Test.YtopbfmhajbjepaaChecked
import GoSem.Claim
import GoSem.ClaimJoined
import GoSem.ClaimMapViews
import Derived.JoinedTies
import Derived.KernelRfl
namespace Go.Proofs.Ytopbfmhajbjepaa
/- THE CELL 'sum', in the pinned program and in every row, IS THE sha256 OF THE DUMP (.gsa) THAT YtopbfmhajbjepaaProg.lean LOADS. Nothing in Lean hashes anything: it is a label: what it is worth is what the hold of that sum in a sandbox is worth. -/
noncomputable def Try.pinned : Pinned := { name := "ytopbfmhajbjepaa", sum := "382d2159c29776f731c8fc9b4a9a43d00e72879742f8a40ebd18766d4469b46c", checked := Try.checked }
namespace Rows
def none {H : Type} : Left H := { results := [], args := [] }

/-- 'laws.FnExactProductGraph': WHATEVER THE INPUT: true; the input reads as it did. -/
def fnExactProductGraphSpec : ChangeSpec := { name := "fnExactProductGraph", fn := fun _ => fun
  | [d1, d2] => { results := [.lit (.bool true)], args := [d1, d2] }
  | _ => none }
def fnExactProductGraphRow : OpenClaim := { program := "ytopbfmhajbjepaa", sum := "382d2159c29776f731c8fc9b4a9a43d00e72879742f8a40ebd18766d4469b46c", func := "loop.example/g01146/laws.FnExactProductGraph", spec := "fnExactProductGraph", plainKeys := false, apart := false }
def FnExactProductGraphSaid : Prop := fnExactProductGraphRow.holds Try.pinned (OpenSpec.ofChange fnExactProductGraphSpec)

/-- ITS FALSE NEIGHBOUR: 'it returns false'. Refute it at one input. -/
def fnExactProductGraphWrong : ChangeSpec := { name := "fnExactProductGraph", fn := fun _ => fun
  | [d1, d2] => { results := [.lit (.bool false)], args := [d1, d2] }
  | _ => none }
def FnExactProductGraphWrongFalsely : Prop := fnExactProductGraphRow.holds Try.pinned (OpenSpec.ofChange fnExactProductGraphWrong)

/-- 'laws.FnExactMinimalPoly': WHATEVER THE INPUT: true; the input reads as it did. -/
def fnExactMinimalPolySpec : ChangeSpec := { name := "fnExactMinimalPoly", fn := fun _ => fun
  | [d] => { results := [.lit (.bool true)], args := [d] }
  | _ => none }
def fnExactMinimalPolyRow : OpenClaim := { program := "ytopbfmhajbjepaa", sum := "382d2159c29776f731c8fc9b4a9a43d00e72879742f8a40ebd18766d4469b46c", func := "loop.example/g01146/laws.FnExactMinimalPoly", spec := "fnExactMinimalPoly", unfollowed := true, recurses := true, plainKeys := false, apart := false }
def FnExactMinimalPolySaid : Prop := fnExactMinimalPolyRow.holds Try.pinned (OpenSpec.ofChange fnExactMinimalPolySpec)

/-- ITS FALSE NEIGHBOUR: 'it returns false'. Refute it at one input. -/
def fnExactMinimalPolyWrong : ChangeSpec := { name := "fnExactMinimalPoly", fn := fun _ => fun
  | [d] => { results := [.lit (.bool false)], args := [d] }
  | _ => none }
def FnExactMinimalPolyWrongFalsely : Prop := fnExactMinimalPolyRow.holds Try.pinned (OpenSpec.ofChange fnExactMinimalPolyWrong)

/-- 'laws.FnColoursPressed': WHATEVER THE INPUT: true; the input reads as it did. -/
def fnColoursPressedSpec : ChangeSpec := { name := "fnColoursPressed", fn := fun _ => fun
  | [d1, d2] => { results := [.lit (.bool true)], args := [d1, d2] }
  | _ => none }
def fnColoursPressedRow : OpenClaim := { program := "ytopbfmhajbjepaa", sum := "382d2159c29776f731c8fc9b4a9a43d00e72879742f8a40ebd18766d4469b46c", func := "loop.example/g01146/laws.FnColoursPressed", spec := "fnColoursPressed", unfollowed := true, recurses := true, plainKeys := false, apart := false }
def FnColoursPressedSaid : Prop := fnColoursPressedRow.holds Try.pinned (OpenSpec.ofChange fnColoursPressedSpec)

/-- ITS FALSE NEIGHBOUR: 'it returns false'. Refute it at one input. -/
def fnColoursPressedWrong : ChangeSpec := { name := "fnColoursPressed", fn := fun _ => fun
  | [d1, d2] => { results := [.lit (.bool false)], args := [d1, d2] }
  | _ => none }
def FnColoursPressedWrongFalsely : Prop := fnColoursPressedRow.holds Try.pinned (OpenSpec.ofChange fnColoursPressedWrong)

/-- 'laws.FnPathsAndCircles': WHATEVER THE INPUT: true; the input reads as it did. -/
def fnPathsAndCirclesSpec : ChangeSpec := { name := "fnPathsAndCircles", fn := fun _ => fun
  | [d1, d2] => { results := [.lit (.bool true)], args := [d1, d2] }
  | _ => none }
def fnPathsAndCirclesRow : OpenClaim := { program := "ytopbfmhajbjepaa", sum := "382d2159c29776f731c8fc9b4a9a43d00e72879742f8a40ebd18766d4469b46c", func := "loop.example/g01146/laws.FnPathsAndCircles", spec := "fnPathsAndCircles", unfollowed := true, recurses := true, plainKeys := false, apart := false }
def FnPathsAndCirclesSaid : Prop := fnPathsAndCirclesRow.holds Try.pinned (OpenSpec.ofChange fnPathsAndCirclesSpec)

/-- ITS FALSE NEIGHBOUR: 'it returns false'. Refute it at one input. -/
def fnPathsAndCirclesWrong : ChangeSpec := { name := "fnPathsAndCircles", fn := fun _ => fun
  | [d1, d2] => { results := [.lit (.bool false)], args := [d1, d2] }
  | _ => none }
def FnPathsAndCirclesWrongFalsely : Prop := fnPathsAndCirclesRow.holds Try.pinned (OpenSpec.ofChange fnPathsAndCirclesWrong)

/-- 'laws.FnAllOnSolved': WHATEVER THE INPUT: true; the input reads as it did. -/
def fnAllOnSolvedSpec : ChangeSpec := { name := "fnAllOnSolved", fn := fun _ => fun
  | [d1, d2] => { results := [.lit (.bool true)], args := [d1, d2] }
  | _ => none }
def fnAllOnSolvedRow : OpenClaim := { program := "ytopbfmhajbjepaa", sum := "382d2159c29776f731c8fc9b4a9a43d00e72879742f8a40ebd18766d4469b46c", func := "loop.example/g01146/laws.FnAllOnSolved", spec := "fnAllOnSolved", unfollowed := true, recurses := true, plainKeys := false, apart := false }
def FnAllOnSolvedSaid : Prop := fnAllOnSolvedRow.holds Try.pinned (OpenSpec.ofChange fnAllOnSolvedSpec)

/-- ITS FALSE NEIGHBOUR: 'it returns false'. Refute it at one input. -/
def fnAllOnSolvedWrong : ChangeSpec := { name := "fnAllOnSolved", fn := fun _ => fun
  | [d1, d2] => { results := [.lit (.bool false)], args := [d1, d2] }
  | _ => none }
def FnAllOnSolvedWrongFalsely : Prop := fnAllOnSolvedRow.holds Try.pinned (OpenSpec.ofChange fnAllOnSolvedWrong)

/-- 'laws.FnOddDominating': WHATEVER THE INPUT: true; the input reads as it did. -/
def fnOddDominatingSpec : ChangeSpec := { name := "fnOddDominating", fn := fun _ => fun
  | [d1, d2] => { results := [.lit (.bool true)], args := [d1, d2] }
  | _ => none }
def fnOddDominatingRow : OpenClaim := { program := "ytopbfmhajbjepaa", sum := "382d2159c29776f731c8fc9b4a9a43d00e72879742f8a40ebd18766d4469b46c", func := "loop.example/g01146/laws.FnOddDominating", spec := "fnOddDominating", unfollowed := true, recurses := true, plainKeys := false, apart := false }
def FnOddDominatingSaid : Prop := fnOddDominatingRow.holds Try.pinned (OpenSpec.ofChange fnOddDominatingSpec)

/-- ITS FALSE NEIGHBOUR: 'it returns false'. Refute it at one input. -/
def fnOddDominatingWrong : ChangeSpec := { name := "fnOddDominating", fn := fun _ => fun
  | [d1, d2] => { results := [.lit (.bool false)], args := [d1, d2] }
  | _ => none }
def FnOddDominatingWrongFalsely : Prop := fnOddDominatingRow.holds Try.pinned (OpenSpec.ofChange fnOddDominatingWrong)

/-- 'laws.FnKnownGraphs': WHATEVER THE INPUT: true; the input reads as it did. -/
def fnKnownGraphsSpec : ChangeSpec := { name := "fnKnownGraphs", fn := fun _ => fun
  | [d1, d2] => { results := [.lit (.bool true)], args := [d1, d2] }
  | _ => none }
def fnKnownGraphsRow : OpenClaim := { program := "ytopbfmhajbjepaa", sum := "382d2159c29776f731c8fc9b4a9a43d00e72879742f8a40ebd18766d4469b46c", func := "loop.example/g01146/laws.FnKnownGraphs", spec := "fnKnownGraphs", unfollowed := true, recurses := true, plainKeys := false, apart := false }
def FnKnownGraphsSaid : Prop := fnKnownGraphsRow.holds Try.pinned (OpenSpec.ofChange fnKnownGraphsSpec)

/-- ITS FALSE NEIGHBOUR: 'it returns false'. Refute it at one input. -/
def fnKnownGraphsWrong : ChangeSpec := { name := "fnKnownGraphs", fn := fun _ => fun
  | [d1, d2] => { results := [.lit (.bool false)], args := [d1, d2] }
  | _ => none }
def FnKnownGraphsWrongFalsely : Prop := fnKnownGraphsRow.holds Try.pinned (OpenSpec.ofChange fnKnownGraphsWrong)

/-- 'laws.FnSolvedOrRefused': WHATEVER THE INPUT: true; the input reads as it did. -/
def fnSolvedOrRefusedSpec : ChangeSpec := { name := "fnSolvedOrRefused", fn := fun _ => fun
  | [d1, d2] => { results := [.lit (.bool true)], args := [d1, d2] }
  | _ => none }
def fnSolvedOrRefusedRow : OpenClaim := { program := "ytopbfmhajbjepaa", sum := "382d2159c29776f731c8fc9b4a9a43d00e72879742f8a40ebd18766d4469b46c", func := "loop.example/g01146/laws.FnSolvedOrRefused", spec := "fnSolvedOrRefused", unfollowed := true, recurses := true, plainKeys := false, apart := false }
def FnSolvedOrRefusedSaid : Prop := fnSolvedOrRefusedRow.holds Try.pinned (OpenSpec.ofChange fnSolvedOrRefusedSpec)

/-- ITS FALSE NEIGHBOUR: 'it returns false'. Refute it at one input. -/
def fnSolvedOrRefusedWrong : ChangeSpec := { name := "fnSolvedOrRefused", fn := fun _ => fun
  | [d1, d2] => { results := [.lit (.bool false)], args := [d1, d2] }
  | _ => none }
def FnSolvedOrRefusedWrongFalsely : Prop := fnSolvedOrRefusedRow.holds Try.pinned (OpenSpec.ofChange fnSolvedOrRefusedWrong)

/-- 'laws.FnCutsAndEvenEdges': WHATEVER THE INPUT: true; the input reads as it did. -/
def fnCutsAndEvenEdgesSpec : ChangeSpec := { name := "fnCutsAndEvenEdges", fn := fun _ => fun
  | [d1, d2] => { results := [.lit (.bool true)], args := [d1, d2] }
  | _ => none }
def fnCutsAndEvenEdgesRow : OpenClaim := { program := "ytopbfmhajbjepaa", sum := "382d2159c29776f731c8fc9b4a9a43d00e72879742f8a40ebd18766d4469b46c", func := "loop.example/g01146/laws.FnCutsAndEvenEdges", spec := "fnCutsAndEvenEdges", unfollowed := true, recurses := true, plainKeys := false, apart := false }
def FnCutsAndEvenEdgesSaid : Prop := fnCutsAndEvenEdgesRow.holds Try.pinned (OpenSpec.ofChange fnCutsAndEvenEdgesSpec)

/-- ITS FALSE NEIGHBOUR: 'it returns false'. Refute it at one input. -/
def fnCutsAndEvenEdgesWrong : ChangeSpec := { name := "fnCutsAndEvenEdges", fn := fun _ => fun
  | [d1, d2] => { results := [.lit (.bool false)], args := [d1, d2] }
  | _ => none }
def FnCutsAndEvenEdgesWrongFalsely : Prop := fnCutsAndEvenEdgesRow.holds Try.pinned (OpenSpec.ofChange fnCutsAndEvenEdgesWrong)

/- THE SECOND FORM. 'bulk': how many values and letters a reading holds, each counted each time it is reached (what is shared counts as often as it is met; a slice's spare places count too). A statement '..UptoSaid' is the law's where the arguments, and the package variables that the reading takes, are together of bulk at most 1048576: NARROWER than '..Said'. Prove '..Said' where nothing that the law and all that it calls make is longer than what came in: it says more and counts as full. Else prove '..UptoSaid'. A law counts once. -/
mutual
def uptoBulk {H : Type} : DataW H → Nat
  | .lit (.string bytes) => bytes.length + 1
  | .lit _ => 1
  | .nil => 1
  | .ptr d => uptoBulk d + 1
  | .slice elems spare => uptoBulkAll elems + uptoBulkAll spare + 1
  | .agg parts => uptoBulkAll parts + 1
  | .iface _ d => uptoBulk d + 1
  | .map entries => uptoBulkEntries entries + 1
  | .held _ => 1
def uptoBulkAll {H : Type} : List (DataW H) → Nat
  | [] => 0
  | d :: r => uptoBulk d + uptoBulkAll r
def uptoBulkEntries {H : Type} : List (Lit × DataW H) → Nat
  | [] => 0
  | x :: r => uptoBulkEntry x + uptoBulkEntries r
def uptoBulkEntry {H : Type} : Lit × DataW H → Nat
  | (.string bytes, d) => bytes.length + uptoBulk d + 1
  | (_, d) => uptoBulk d + 1
 end
def uptoSmall : (H : Type) → List (DataW H) → Bool := fun _ ds => decide (uptoBulkAll ds ≤ 1048576)
def OpenSpec.upto (s : _root_.Go.ChangeSpec) : _root_.Go.OpenSpec := { _root_.Go.OpenSpec.ofChange s with cond := some uptoSmall }

/-- 'laws.FnExactProductGraph', WHERE WHAT IT READS IS OF BULK AT MOST 1048576: true; the input reads as it did. -/
def fnExactProductGraphUptoRow : OpenClaim := { program := "ytopbfmhajbjepaa", sum := "382d2159c29776f731c8fc9b4a9a43d00e72879742f8a40ebd18766d4469b46c", func := "loop.example/g01146/laws.FnExactProductGraph", spec := "fnExactProductGraph", plainKeys := false, apart := false, narrowed := true }
def FnExactProductGraphUptoSaid : Prop := fnExactProductGraphUptoRow.holds Try.pinned (OpenSpec.upto fnExactProductGraphSpec)

/-- 'laws.FnExactMinimalPoly', WHERE WHAT IT READS IS OF BULK AT MOST 1048576: true; the input reads as it did. -/
def fnExactMinimalPolyUptoRow : OpenClaim := { program := "ytopbfmhajbjepaa", sum := "382d2159c29776f731c8fc9b4a9a43d00e72879742f8a40ebd18766d4469b46c", func := "loop.example/g01146/laws.FnExactMinimalPoly", spec := "fnExactMinimalPoly", unfollowed := true, recurses := true, plainKeys := false, apart := false, narrowed := true }
def FnExactMinimalPolyUptoSaid : Prop := fnExactMinimalPolyUptoRow.holds Try.pinned (OpenSpec.upto fnExactMinimalPolySpec)

/-- 'laws.FnColoursPressed', WHERE WHAT IT READS IS OF BULK AT MOST 1048576: true; the input reads as it did. -/
def fnColoursPressedUptoRow : OpenClaim := { program := "ytopbfmhajbjepaa", sum := "382d2159c29776f731c8fc9b4a9a43d00e72879742f8a40ebd18766d4469b46c", func := "loop.example/g01146/laws.FnColoursPressed", spec := "fnColoursPressed", unfollowed := true, recurses := true, plainKeys := false, apart := false, narrowed := true }
def FnColoursPressedUptoSaid : Prop := fnColoursPressedUptoRow.holds Try.pinned (OpenSpec.upto fnColoursPressedSpec)

/-- 'laws.FnPathsAndCircles', WHERE WHAT IT READS IS OF BULK AT MOST 1048576: true; the input reads as it did. -/
def fnPathsAndCirclesUptoRow : OpenClaim := { program := "ytopbfmhajbjepaa", sum := "382d2159c29776f731c8fc9b4a9a43d00e72879742f8a40ebd18766d4469b46c", func := "loop.example/g01146/laws.FnPathsAndCircles", spec := "fnPathsAndCircles", unfollowed := true, recurses := true, plainKeys := false, apart := false, narrowed := true }
def FnPathsAndCirclesUptoSaid : Prop := fnPathsAndCirclesUptoRow.holds Try.pinned (OpenSpec.upto fnPathsAndCirclesSpec)

/-- 'laws.FnAllOnSolved', WHERE WHAT IT READS IS OF BULK AT MOST 1048576: true; the input reads as it did. -/
def fnAllOnSolvedUptoRow : OpenClaim := { program := "ytopbfmhajbjepaa", sum := "382d2159c29776f731c8fc9b4a9a43d00e72879742f8a40ebd18766d4469b46c", func := "loop.example/g01146/laws.FnAllOnSolved", spec := "fnAllOnSolved", unfollowed := true, recurses := true, plainKeys := false, apart := false, narrowed := true }
def FnAllOnSolvedUptoSaid : Prop := fnAllOnSolvedUptoRow.holds Try.pinned (OpenSpec.upto fnAllOnSolvedSpec)

/-- 'laws.FnOddDominating', WHERE WHAT IT READS IS OF BULK AT MOST 1048576: true; the input reads as it did. -/
def fnOddDominatingUptoRow : OpenClaim := { program := "ytopbfmhajbjepaa", sum := "382d2159c29776f731c8fc9b4a9a43d00e72879742f8a40ebd18766d4469b46c", func := "loop.example/g01146/laws.FnOddDominating", spec := "fnOddDominating", unfollowed := true, recurses := true, plainKeys := false, apart := false, narrowed := true }
def FnOddDominatingUptoSaid : Prop := fnOddDominatingUptoRow.holds Try.pinned (OpenSpec.upto fnOddDominatingSpec)

/-- 'laws.FnKnownGraphs', WHERE WHAT IT READS IS OF BULK AT MOST 1048576: true; the input reads as it did. -/
def fnKnownGraphsUptoRow : OpenClaim := { program := "ytopbfmhajbjepaa", sum := "382d2159c29776f731c8fc9b4a9a43d00e72879742f8a40ebd18766d4469b46c", func := "loop.example/g01146/laws.FnKnownGraphs", spec := "fnKnownGraphs", unfollowed := true, recurses := true, plainKeys := false, apart := false, narrowed := true }
def FnKnownGraphsUptoSaid : Prop := fnKnownGraphsUptoRow.holds Try.pinned (OpenSpec.upto fnKnownGraphsSpec)

/-- 'laws.FnSolvedOrRefused', WHERE WHAT IT READS IS OF BULK AT MOST 1048576: true; the input reads as it did. -/
def fnSolvedOrRefusedUptoRow : OpenClaim := { program := "ytopbfmhajbjepaa", sum := "382d2159c29776f731c8fc9b4a9a43d00e72879742f8a40ebd18766d4469b46c", func := "loop.example/g01146/laws.FnSolvedOrRefused", spec := "fnSolvedOrRefused", unfollowed := true, recurses := true, plainKeys := false, apart := false, narrowed := true }
def FnSolvedOrRefusedUptoSaid : Prop := fnSolvedOrRefusedUptoRow.holds Try.pinned (OpenSpec.upto fnSolvedOrRefusedSpec)

/-- 'laws.FnCutsAndEvenEdges', WHERE WHAT IT READS IS OF BULK AT MOST 1048576: true; the input reads as it did. -/
def fnCutsAndEvenEdgesUptoRow : OpenClaim := { program := "ytopbfmhajbjepaa", sum := "382d2159c29776f731c8fc9b4a9a43d00e72879742f8a40ebd18766d4469b46c", func := "loop.example/g01146/laws.FnCutsAndEvenEdges", spec := "fnCutsAndEvenEdges", unfollowed := true, recurses := true, plainKeys := false, apart := false, narrowed := true }
def FnCutsAndEvenEdgesUptoSaid : Prop := fnCutsAndEvenEdgesUptoRow.holds Try.pinned (OpenSpec.upto fnCutsAndEvenEdgesSpec)

end Rows
end Go.Proofs.Ytopbfmhajbjepaa
