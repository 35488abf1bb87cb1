/-
  No cell of these rows narrows 'for every input' (looked for: loops, veiled, ifaces, maps, wideKeys, modest, calm, conditions, laid).
  DERIVED. THE GIVEN ROWS OF THIS SEAT. 10 by the template 'for every input the law returns true; each argument reads behind the call as it read before'; 0 by the template 'total and deterministic' (their statements: YtifaekkbdmcehaaTotals.lean).
  GIVEN WITH THE SEED: the statements are not yours to turn. If you find one false, say at which input.
  Laid BY PROGRAM, IN A SANDBOX (cutbox-rows.mjs): the forced cells as the released guide's own fill.sh prints them over the translation cdf2f4d7affb6d2a… (all of the seat's roots in one cut). By AI agents, Wed Nov 11 2026. No macro, syntax, notation, axiom, sorry.
-/
import Derived.Test.YtifaekkbdmcehaaChecked
import GoSem.Claim
import GoSem.ClaimJoined
import GoSem.ClaimMapViews
import Derived.JoinedTies
import Derived.KernelRfl
namespace Go.Proofs.Ytifaekkbdmcehaa
/- THE CELL 'sum', in the pinned program and in every row, IS THE sha256 OF THE DUMP (.gsa) THAT YtifaekkbdmcehaaProg.lean LOADS. Nothing in Lean hashes anything: it is a label: what it is worth is what the hold of that sum in a sandbox is worth. -/
noncomputable def Try.pinned : Pinned := { name := "ytifaekkbdmcehaa", sum := "cdf2f4d7affb6d2a99bd5d792c2f940ad8c5c56b41cc77f5eb80a1c3e6ce015e", checked := Try.checked }
namespace Rows
def none {H : Type} : Left H := { results := [], args := [] }

/-- 'laws.FnExactSorted': WHATEVER THE INPUT: true; the input reads as it did. -/
def fnExactSortedSpec : ChangeSpec := { name := "fnExactSorted", fn := fun _ => fun
  | [d] => { results := [.lit (.bool true)], args := [d] }
  | _ => none }
def fnExactSortedRow : OpenClaim := { program := "ytifaekkbdmcehaa", sum := "cdf2f4d7affb6d2a99bd5d792c2f940ad8c5c56b41cc77f5eb80a1c3e6ce015e", func := "loop.example/g00671/laws.FnExactSorted", spec := "fnExactSorted", apart := false }
def FnExactSortedSaid : Prop := fnExactSortedRow.holds Try.pinned (OpenSpec.ofChange fnExactSortedSpec)

/-- ITS FALSE NEIGHBOUR: 'it returns false'. Refute it at one input. -/
def fnExactSortedWrong : ChangeSpec := { name := "fnExactSorted", fn := fun _ => fun
  | [d] => { results := [.lit (.bool false)], args := [d] }
  | _ => none }
def FnExactSortedWrongFalsely : Prop := fnExactSortedRow.holds Try.pinned (OpenSpec.ofChange fnExactSortedWrong)

/-- 'laws.FnExactGraphOk': WHATEVER THE INPUT: true; the input reads as it did. -/
def fnExactGraphOkSpec : ChangeSpec := { name := "fnExactGraphOk", fn := fun _ => fun
  | [d] => { results := [.lit (.bool true)], args := [d] }
  | _ => none }
def fnExactGraphOkRow : OpenClaim := { program := "ytifaekkbdmcehaa", sum := "cdf2f4d7affb6d2a99bd5d792c2f940ad8c5c56b41cc77f5eb80a1c3e6ce015e", func := "loop.example/g00671/laws.FnExactGraphOk", spec := "fnExactGraphOk", apart := false }
def FnExactGraphOkSaid : Prop := fnExactGraphOkRow.holds Try.pinned (OpenSpec.ofChange fnExactGraphOkSpec)

/-- ITS FALSE NEIGHBOUR: 'it returns false'. Refute it at one input. -/
def fnExactGraphOkWrong : ChangeSpec := { name := "fnExactGraphOk", fn := fun _ => fun
  | [d] => { results := [.lit (.bool false)], args := [d] }
  | _ => none }
def FnExactGraphOkWrongFalsely : Prop := fnExactGraphOkRow.holds Try.pinned (OpenSpec.ofChange fnExactGraphOkWrong)

/-- 'laws.FnExactShardOk': WHATEVER THE INPUT: true; the input reads as it did. -/
def fnExactShardOkSpec : ChangeSpec := { name := "fnExactShardOk", fn := fun _ => fun
  | [d] => { results := [.lit (.bool true)], args := [d] }
  | _ => none }
def fnExactShardOkRow : OpenClaim := { program := "ytifaekkbdmcehaa", sum := "cdf2f4d7affb6d2a99bd5d792c2f940ad8c5c56b41cc77f5eb80a1c3e6ce015e", func := "loop.example/g00671/laws.FnExactShardOk", spec := "fnExactShardOk", apart := false }
def FnExactShardOkSaid : Prop := fnExactShardOkRow.holds Try.pinned (OpenSpec.ofChange fnExactShardOkSpec)

/-- ITS FALSE NEIGHBOUR: 'it returns false'. Refute it at one input. -/
def fnExactShardOkWrong : ChangeSpec := { name := "fnExactShardOk", fn := fun _ => fun
  | [d] => { results := [.lit (.bool false)], args := [d] }
  | _ => none }
def FnExactShardOkWrongFalsely : Prop := fnExactShardOkRow.holds Try.pinned (OpenSpec.ofChange fnExactShardOkWrong)

/-- 'laws.FnExactInDegs': WHATEVER THE INPUT: true; the input reads as it did. -/
def fnExactInDegsSpec : ChangeSpec := { name := "fnExactInDegs", fn := fun _ => fun
  | [d] => { results := [.lit (.bool true)], args := [d] }
  | _ => none }
def fnExactInDegsRow : OpenClaim := { program := "ytifaekkbdmcehaa", sum := "cdf2f4d7affb6d2a99bd5d792c2f940ad8c5c56b41cc77f5eb80a1c3e6ce015e", func := "loop.example/g00671/laws.FnExactInDegs", spec := "fnExactInDegs", apart := false }
def FnExactInDegsSaid : Prop := fnExactInDegsRow.holds Try.pinned (OpenSpec.ofChange fnExactInDegsSpec)

/-- ITS FALSE NEIGHBOUR: 'it returns false'. Refute it at one input. -/
def fnExactInDegsWrong : ChangeSpec := { name := "fnExactInDegs", fn := fun _ => fun
  | [d] => { results := [.lit (.bool false)], args := [d] }
  | _ => none }
def FnExactInDegsWrongFalsely : Prop := fnExactInDegsRow.holds Try.pinned (OpenSpec.ofChange fnExactInDegsWrong)

/-- 'laws.FnExactOutDegs': WHATEVER THE INPUT: true; the input reads as it did. -/
def fnExactOutDegsSpec : ChangeSpec := { name := "fnExactOutDegs", fn := fun _ => fun
  | [d] => { results := [.lit (.bool true)], args := [d] }
  | _ => none }
def fnExactOutDegsRow : OpenClaim := { program := "ytifaekkbdmcehaa", sum := "cdf2f4d7affb6d2a99bd5d792c2f940ad8c5c56b41cc77f5eb80a1c3e6ce015e", func := "loop.example/g00671/laws.FnExactOutDegs", spec := "fnExactOutDegs", apart := false }
def FnExactOutDegsSaid : Prop := fnExactOutDegsRow.holds Try.pinned (OpenSpec.ofChange fnExactOutDegsSpec)

/-- ITS FALSE NEIGHBOUR: 'it returns false'. Refute it at one input. -/
def fnExactOutDegsWrong : ChangeSpec := { name := "fnExactOutDegs", fn := fun _ => fun
  | [d] => { results := [.lit (.bool false)], args := [d] }
  | _ => none }
def FnExactOutDegsWrongFalsely : Prop := fnExactOutDegsRow.holds Try.pinned (OpenSpec.ofChange fnExactOutDegsWrong)

/-- 'laws.FnExactWindow': WHATEVER THE INPUT: true; the input reads as it did. -/
def fnExactWindowSpec : ChangeSpec := { name := "fnExactWindow", fn := fun _ => fun
  | [d1, d2, d3] => { results := [.lit (.bool true)], args := [d1, d2, d3] }
  | _ => none }
def fnExactWindowRow : OpenClaim := { program := "ytifaekkbdmcehaa", sum := "cdf2f4d7affb6d2a99bd5d792c2f940ad8c5c56b41cc77f5eb80a1c3e6ce015e", func := "loop.example/g00671/laws.FnExactWindow", spec := "fnExactWindow", apart := false }
def FnExactWindowSaid : Prop := fnExactWindowRow.holds Try.pinned (OpenSpec.ofChange fnExactWindowSpec)

/-- ITS FALSE NEIGHBOUR: 'it returns false'. Refute it at one input. -/
def fnExactWindowWrong : ChangeSpec := { name := "fnExactWindow", fn := fun _ => fun
  | [d1, d2, d3] => { results := [.lit (.bool false)], args := [d1, d2, d3] }
  | _ => none }
def FnExactWindowWrongFalsely : Prop := fnExactWindowRow.holds Try.pinned (OpenSpec.ofChange fnExactWindowWrong)

/-- 'laws.FnExactMerge': WHATEVER THE INPUT: true; the input reads as it did. -/
def fnExactMergeSpec : ChangeSpec := { name := "fnExactMerge", fn := fun _ => fun
  | [d] => { results := [.lit (.bool true)], args := [d] }
  | _ => none }
def fnExactMergeRow : OpenClaim := { program := "ytifaekkbdmcehaa", sum := "cdf2f4d7affb6d2a99bd5d792c2f940ad8c5c56b41cc77f5eb80a1c3e6ce015e", func := "loop.example/g00671/laws.FnExactMerge", spec := "fnExactMerge", apart := false }
def FnExactMergeSaid : Prop := fnExactMergeRow.holds Try.pinned (OpenSpec.ofChange fnExactMergeSpec)

/-- ITS FALSE NEIGHBOUR: 'it returns false'. Refute it at one input. -/
def fnExactMergeWrong : ChangeSpec := { name := "fnExactMerge", fn := fun _ => fun
  | [d] => { results := [.lit (.bool false)], args := [d] }
  | _ => none }
def FnExactMergeWrongFalsely : Prop := fnExactMergeRow.holds Try.pinned (OpenSpec.ofChange fnExactMergeWrong)

/-- 'laws.FnExactCut': WHATEVER THE INPUT: true; the input reads as it did. -/
def fnExactCutSpec : ChangeSpec := { name := "fnExactCut", fn := fun _ => fun
  | [d1, d2] => { results := [.lit (.bool true)], args := [d1, d2] }
  | _ => none }
def fnExactCutRow : OpenClaim := { program := "ytifaekkbdmcehaa", sum := "cdf2f4d7affb6d2a99bd5d792c2f940ad8c5c56b41cc77f5eb80a1c3e6ce015e", func := "loop.example/g00671/laws.FnExactCut", spec := "fnExactCut", apart := false }
def FnExactCutSaid : Prop := fnExactCutRow.holds Try.pinned (OpenSpec.ofChange fnExactCutSpec)

/-- ITS FALSE NEIGHBOUR: 'it returns false'. Refute it at one input. -/
def fnExactCutWrong : ChangeSpec := { name := "fnExactCut", fn := fun _ => fun
  | [d1, d2] => { results := [.lit (.bool false)], args := [d1, d2] }
  | _ => none }
def FnExactCutWrongFalsely : Prop := fnExactCutRow.holds Try.pinned (OpenSpec.ofChange fnExactCutWrong)

/-- 'laws.FnExactHolds': WHATEVER THE INPUT: true; the input reads as it did. -/
def fnExactHoldsSpec : ChangeSpec := { name := "fnExactHolds", fn := fun _ => fun
  | [d1, d2] => { results := [.lit (.bool true)], args := [d1, d2] }
  | _ => none }
def fnExactHoldsRow : OpenClaim := { program := "ytifaekkbdmcehaa", sum := "cdf2f4d7affb6d2a99bd5d792c2f940ad8c5c56b41cc77f5eb80a1c3e6ce015e", func := "loop.example/g00671/laws.FnExactHolds", spec := "fnExactHolds", apart := false }
def FnExactHoldsSaid : Prop := fnExactHoldsRow.holds Try.pinned (OpenSpec.ofChange fnExactHoldsSpec)

/-- ITS FALSE NEIGHBOUR: 'it returns false'. Refute it at one input. -/
def fnExactHoldsWrong : ChangeSpec := { name := "fnExactHolds", fn := fun _ => fun
  | [d1, d2] => { results := [.lit (.bool false)], args := [d1, d2] }
  | _ => none }
def FnExactHoldsWrongFalsely : Prop := fnExactHoldsRow.holds Try.pinned (OpenSpec.ofChange fnExactHoldsWrong)

/-- 'laws.FnExactJoined': WHATEVER THE INPUT: true; the input reads as it did. -/
def fnExactJoinedSpec : ChangeSpec := { name := "fnExactJoined", fn := fun _ => fun
  | [d1, d2] => { results := [.lit (.bool true)], args := [d1, d2] }
  | _ => none }
def fnExactJoinedRow : OpenClaim := { program := "ytifaekkbdmcehaa", sum := "cdf2f4d7affb6d2a99bd5d792c2f940ad8c5c56b41cc77f5eb80a1c3e6ce015e", func := "loop.example/g00671/laws.FnExactJoined", spec := "fnExactJoined", apart := false }
def FnExactJoinedSaid : Prop := fnExactJoinedRow.holds Try.pinned (OpenSpec.ofChange fnExactJoinedSpec)

/-- ITS FALSE NEIGHBOUR: 'it returns false'. Refute it at one input. -/
def fnExactJoinedWrong : ChangeSpec := { name := "fnExactJoined", fn := fun _ => fun
  | [d1, d2] => { results := [.lit (.bool false)], args := [d1, d2] }
  | _ => none }
def FnExactJoinedWrongFalsely : Prop := fnExactJoinedRow.holds Try.pinned (OpenSpec.ofChange fnExactJoinedWrong)

/- THE SECOND FORM. 'bulk': how many values and letters a reading holds, each counted each time it is reached (what is shared counts as often as it is met; a slice's spare places count too). A statement '..UptoSaid' is the law's where the arguments, and the package variables that the reading takes, are together of bulk at most 1048576: NARROWER than '..Said'. Prove '..Said' where nothing that the law and all that it calls make is longer than what came in: it says more and counts as full. Else prove '..UptoSaid'. A law counts once. -/
mutual
def uptoBulk {H : Type} : DataW H → Nat
  | .lit (.string bytes) => bytes.length + 1
  | .lit _ => 1
  | .nil => 1
  | .ptr d => uptoBulk d + 1
  | .slice elems spare => uptoBulkAll elems + uptoBulkAll spare + 1
  | .agg parts => uptoBulkAll parts + 1
  | .iface _ d => uptoBulk d + 1
  | .map entries => uptoBulkEntries entries + 1
  | .held _ => 1
def uptoBulkAll {H : Type} : List (DataW H) → Nat
  | [] => 0
  | d :: r => uptoBulk d + uptoBulkAll r
def uptoBulkEntries {H : Type} : List (Lit × DataW H) → Nat
  | [] => 0
  | x :: r => uptoBulkEntry x + uptoBulkEntries r
def uptoBulkEntry {H : Type} : Lit × DataW H → Nat
  | (.string bytes, d) => bytes.length + uptoBulk d + 1
  | (_, d) => uptoBulk d + 1
 end
def uptoSmall : (H : Type) → List (DataW H) → Bool := fun _ ds => decide (uptoBulkAll ds ≤ 1048576)
def OpenSpec.upto (s : _root_.Go.ChangeSpec) : _root_.Go.OpenSpec := { _root_.Go.OpenSpec.ofChange s with cond := some uptoSmall }

/-- 'laws.FnExactSorted', WHERE WHAT IT READS IS OF BULK AT MOST 1048576: true; the input reads as it did. -/
def fnExactSortedUptoRow : OpenClaim := { program := "ytifaekkbdmcehaa", sum := "cdf2f4d7affb6d2a99bd5d792c2f940ad8c5c56b41cc77f5eb80a1c3e6ce015e", func := "loop.example/g00671/laws.FnExactSorted", spec := "fnExactSorted", apart := false, narrowed := true }
def FnExactSortedUptoSaid : Prop := fnExactSortedUptoRow.holds Try.pinned (OpenSpec.upto fnExactSortedSpec)

/-- 'laws.FnExactGraphOk', WHERE WHAT IT READS IS OF BULK AT MOST 1048576: true; the input reads as it did. -/
def fnExactGraphOkUptoRow : OpenClaim := { program := "ytifaekkbdmcehaa", sum := "cdf2f4d7affb6d2a99bd5d792c2f940ad8c5c56b41cc77f5eb80a1c3e6ce015e", func := "loop.example/g00671/laws.FnExactGraphOk", spec := "fnExactGraphOk", apart := false, narrowed := true }
def FnExactGraphOkUptoSaid : Prop := fnExactGraphOkUptoRow.holds Try.pinned (OpenSpec.upto fnExactGraphOkSpec)

/-- 'laws.FnExactShardOk', WHERE WHAT IT READS IS OF BULK AT MOST 1048576: true; the input reads as it did. -/
def fnExactShardOkUptoRow : OpenClaim := { program := "ytifaekkbdmcehaa", sum := "cdf2f4d7affb6d2a99bd5d792c2f940ad8c5c56b41cc77f5eb80a1c3e6ce015e", func := "loop.example/g00671/laws.FnExactShardOk", spec := "fnExactShardOk", apart := false, narrowed := true }
def FnExactShardOkUptoSaid : Prop := fnExactShardOkUptoRow.holds Try.pinned (OpenSpec.upto fnExactShardOkSpec)

/-- 'laws.FnExactInDegs', WHERE WHAT IT READS IS OF BULK AT MOST 1048576: true; the input reads as it did. -/
def fnExactInDegsUptoRow : OpenClaim := { program := "ytifaekkbdmcehaa", sum := "cdf2f4d7affb6d2a99bd5d792c2f940ad8c5c56b41cc77f5eb80a1c3e6ce015e", func := "loop.example/g00671/laws.FnExactInDegs", spec := "fnExactInDegs", apart := false, narrowed := true }
def FnExactInDegsUptoSaid : Prop := fnExactInDegsUptoRow.holds Try.pinned (OpenSpec.upto fnExactInDegsSpec)

/-- 'laws.FnExactOutDegs', WHERE WHAT IT READS IS OF BULK AT MOST 1048576: true; the input reads as it did. -/
def fnExactOutDegsUptoRow : OpenClaim := { program := "ytifaekkbdmcehaa", sum := "cdf2f4d7affb6d2a99bd5d792c2f940ad8c5c56b41cc77f5eb80a1c3e6ce015e", func := "loop.example/g00671/laws.FnExactOutDegs", spec := "fnExactOutDegs", apart := false, narrowed := true }
def FnExactOutDegsUptoSaid : Prop := fnExactOutDegsUptoRow.holds Try.pinned (OpenSpec.upto fnExactOutDegsSpec)

/-- 'laws.FnExactWindow', WHERE WHAT IT READS IS OF BULK AT MOST 1048576: true; the input reads as it did. -/
def fnExactWindowUptoRow : OpenClaim := { program := "ytifaekkbdmcehaa", sum := "cdf2f4d7affb6d2a99bd5d792c2f940ad8c5c56b41cc77f5eb80a1c3e6ce015e", func := "loop.example/g00671/laws.FnExactWindow", spec := "fnExactWindow", apart := false, narrowed := true }
def FnExactWindowUptoSaid : Prop := fnExactWindowUptoRow.holds Try.pinned (OpenSpec.upto fnExactWindowSpec)

/-- 'laws.FnExactMerge', WHERE WHAT IT READS IS OF BULK AT MOST 1048576: true; the input reads as it did. -/
def fnExactMergeUptoRow : OpenClaim := { program := "ytifaekkbdmcehaa", sum := "cdf2f4d7affb6d2a99bd5d792c2f940ad8c5c56b41cc77f5eb80a1c3e6ce015e", func := "loop.example/g00671/laws.FnExactMerge", spec := "fnExactMerge", apart := false, narrowed := true }
def FnExactMergeUptoSaid : Prop := fnExactMergeUptoRow.holds Try.pinned (OpenSpec.upto fnExactMergeSpec)

/-- 'laws.FnExactCut', WHERE WHAT IT READS IS OF BULK AT MOST 1048576: true; the input reads as it did. -/
def fnExactCutUptoRow : OpenClaim := { program := "ytifaekkbdmcehaa", sum := "cdf2f4d7affb6d2a99bd5d792c2f940ad8c5c56b41cc77f5eb80a1c3e6ce015e", func := "loop.example/g00671/laws.FnExactCut", spec := "fnExactCut", apart := false, narrowed := true }
def FnExactCutUptoSaid : Prop := fnExactCutUptoRow.holds Try.pinned (OpenSpec.upto fnExactCutSpec)

/-- 'laws.FnExactHolds', WHERE WHAT IT READS IS OF BULK AT MOST 1048576: true; the input reads as it did. -/
def fnExactHoldsUptoRow : OpenClaim := { program := "ytifaekkbdmcehaa", sum := "cdf2f4d7affb6d2a99bd5d792c2f940ad8c5c56b41cc77f5eb80a1c3e6ce015e", func := "loop.example/g00671/laws.FnExactHolds", spec := "fnExactHolds", apart := false, narrowed := true }
def FnExactHoldsUptoSaid : Prop := fnExactHoldsUptoRow.holds Try.pinned (OpenSpec.upto fnExactHoldsSpec)

/-- 'laws.FnExactJoined', WHERE WHAT IT READS IS OF BULK AT MOST 1048576: true; the input reads as it did. -/
def fnExactJoinedUptoRow : OpenClaim := { program := "ytifaekkbdmcehaa", sum := "cdf2f4d7affb6d2a99bd5d792c2f940ad8c5c56b41cc77f5eb80a1c3e6ce015e", func := "loop.example/g00671/laws.FnExactJoined", spec := "fnExactJoined", apart := false, narrowed := true }
def FnExactJoinedUptoSaid : Prop := fnExactJoinedUptoRow.holds Try.pinned (OpenSpec.upto fnExactJoinedSpec)

end Rows
end Go.Proofs.Ytifaekkbdmcehaa
