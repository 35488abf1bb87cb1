/-
  No cell of these rows narrows 'for every input' (looked for: loops, veiled, ifaces, maps, wideKeys, modest, calm, conditions, laid).
  DERIVED. THE GIVEN ROWS OF THIS SEAT. 5 by the template 'for every input the law returns true; each argument reads behind the call as it read before'; 0 by the template 'total and deterministic' (their statements: YthffmjeodoinlaaTotals.lean).
  GIVEN WITH THE SEED: the statements are not yours to turn. If you find one false, say at which input.
  Laid BY PROGRAM, IN A SANDBOX (cutbox-rows.mjs): the forced cells as the released guide's own fill.sh prints them over the translation 459a73aa49ca0fd1… (all of the seat's roots in one cut). By AI agents, Wed Nov 11 2026. No macro, syntax, notation, axiom, sorry.
-/
import Derived.Test.YthffmjeodoinlaaChecked
import GoSem.Claim
import GoSem.ClaimJoined
import GoSem.ClaimMapViews
import Derived.JoinedTies
import Derived.KernelRfl
namespace Go.Proofs.Ythffmjeodoinlaa
/- THE CELL 'sum', in the pinned program and in every row, IS THE sha256 OF THE DUMP (.gsa) THAT YthffmjeodoinlaaProg.lean LOADS. Nothing in Lean hashes anything: it is a label: what it is worth is what the hold of that sum in a sandbox is worth. -/
noncomputable def Try.pinned : Pinned := { name := "ythffmjeodoinlaa", sum := "459a73aa49ca0fd1c020a5b947d085333552c36d3ea56f07a526b54235169221", checked := Try.checked }
namespace Rows
def none {H : Type} : Left H := { results := [], args := [] }

/-- 'laws.FnExactSortOne': WHATEVER THE INPUT: true; the input reads as it did. -/
def fnExactSortOneSpec : ChangeSpec := { name := "fnExactSortOne", fn := fun _ => fun
  | [d] => { results := [.lit (.bool true)], args := [d] }
  | _ => none }
def fnExactSortOneRow : OpenClaim := { program := "ythffmjeodoinlaa", sum := "459a73aa49ca0fd1c020a5b947d085333552c36d3ea56f07a526b54235169221", func := "loop.example/g00671/laws.FnExactSortOne", spec := "fnExactSortOne", inPlace := ["internal/reflectlite.ValueOf", "internal/reflectlite.Swapper", "(internal/reflectlite.Value).Len"], unfollowed := true, recurses := true, apart := false }
def FnExactSortOneSaid : Prop := fnExactSortOneRow.holds Try.pinned (OpenSpec.ofChange fnExactSortOneSpec)

/-- ITS FALSE NEIGHBOUR: 'it returns false'. Refute it at one input. -/
def fnExactSortOneWrong : ChangeSpec := { name := "fnExactSortOne", fn := fun _ => fun
  | [d] => { results := [.lit (.bool false)], args := [d] }
  | _ => none }
def FnExactSortOneWrongFalsely : Prop := fnExactSortOneRow.holds Try.pinned (OpenSpec.ofChange fnExactSortOneWrong)

/-- 'laws.FnExactBatches': WHATEVER THE INPUT: true; the input reads as it did. -/
def fnExactBatchesSpec : ChangeSpec := { name := "fnExactBatches", fn := fun _ => fun
  | [d1, d2] => { results := [.lit (.bool true)], args := [d1, d2] }
  | _ => none }
def fnExactBatchesRow : OpenClaim := { program := "ythffmjeodoinlaa", sum := "459a73aa49ca0fd1c020a5b947d085333552c36d3ea56f07a526b54235169221", func := "loop.example/g00671/laws.FnExactBatches", spec := "fnExactBatches", inPlace := ["internal/reflectlite.ValueOf", "internal/reflectlite.Swapper", "(internal/reflectlite.Value).Len"], unfollowed := true, recurses := true, apart := false }
def FnExactBatchesSaid : Prop := fnExactBatchesRow.holds Try.pinned (OpenSpec.ofChange fnExactBatchesSpec)

/-- ITS FALSE NEIGHBOUR: 'it returns false'. Refute it at one input. -/
def fnExactBatchesWrong : ChangeSpec := { name := "fnExactBatches", fn := fun _ => fun
  | [d1, d2] => { results := [.lit (.bool false)], args := [d1, d2] }
  | _ => none }
def FnExactBatchesWrongFalsely : Prop := fnExactBatchesRow.holds Try.pinned (OpenSpec.ofChange fnExactBatchesWrong)

/-- 'laws.FnExactSortAll': WHATEVER THE INPUT: true; the input reads as it did. -/
def fnExactSortAllSpec : ChangeSpec := { name := "fnExactSortAll", fn := fun _ => fun
  | [d1, d2] => { results := [.lit (.bool true)], args := [d1, d2] }
  | _ => none }
def fnExactSortAllRow : OpenClaim := { program := "ythffmjeodoinlaa", sum := "459a73aa49ca0fd1c020a5b947d085333552c36d3ea56f07a526b54235169221", func := "loop.example/g00671/laws.FnExactSortAll", spec := "fnExactSortAll", inPlace := ["internal/reflectlite.ValueOf", "internal/reflectlite.Swapper", "(internal/reflectlite.Value).Len"], unfollowed := true, recurses := true, apart := false }
def FnExactSortAllSaid : Prop := fnExactSortAllRow.holds Try.pinned (OpenSpec.ofChange fnExactSortAllSpec)

/-- ITS FALSE NEIGHBOUR: 'it returns false'. Refute it at one input. -/
def fnExactSortAllWrong : ChangeSpec := { name := "fnExactSortAll", fn := fun _ => fun
  | [d1, d2] => { results := [.lit (.bool false)], args := [d1, d2] }
  | _ => none }
def FnExactSortAllWrongFalsely : Prop := fnExactSortAllRow.holds Try.pinned (OpenSpec.ofChange fnExactSortAllWrong)

/-- 'laws.FnSort': WHATEVER THE INPUT: true; the input reads as it did. -/
def fnSortSpec : ChangeSpec := { name := "fnSort", fn := fun _ => fun
  | [d] => { results := [.lit (.bool true)], args := [d] }
  | _ => none }
def fnSortRow : OpenClaim := { program := "ythffmjeodoinlaa", sum := "459a73aa49ca0fd1c020a5b947d085333552c36d3ea56f07a526b54235169221", func := "loop.example/g00671/laws.FnSort", spec := "fnSort", inPlace := ["internal/reflectlite.ValueOf", "internal/reflectlite.Swapper", "(internal/reflectlite.Value).Len"], unfollowed := true, recurses := true, apart := false }
def FnSortSaid : Prop := fnSortRow.holds Try.pinned (OpenSpec.ofChange fnSortSpec)

/-- ITS FALSE NEIGHBOUR: 'it returns false'. Refute it at one input. -/
def fnSortWrong : ChangeSpec := { name := "fnSort", fn := fun _ => fun
  | [d] => { results := [.lit (.bool false)], args := [d] }
  | _ => none }
def FnSortWrongFalsely : Prop := fnSortRow.holds Try.pinned (OpenSpec.ofChange fnSortWrong)

/-- 'laws.FnExactShards': WHATEVER THE INPUT: true; the input reads as it did. -/
def fnExactShardsSpec : ChangeSpec := { name := "fnExactShards", fn := fun _ => fun
  | [d1, d2, d3] => { results := [.lit (.bool true)], args := [d1, d2, d3] }
  | _ => none }
def fnExactShardsRow : OpenClaim := { program := "ythffmjeodoinlaa", sum := "459a73aa49ca0fd1c020a5b947d085333552c36d3ea56f07a526b54235169221", func := "loop.example/g00671/laws.FnExactShards", spec := "fnExactShards", inPlace := ["internal/reflectlite.ValueOf", "internal/reflectlite.Swapper", "(internal/reflectlite.Value).Len"], unfollowed := true, recurses := true, apart := false }
def FnExactShardsSaid : Prop := fnExactShardsRow.holds Try.pinned (OpenSpec.ofChange fnExactShardsSpec)

/-- ITS FALSE NEIGHBOUR: 'it returns false'. Refute it at one input. -/
def fnExactShardsWrong : ChangeSpec := { name := "fnExactShards", fn := fun _ => fun
  | [d1, d2, d3] => { results := [.lit (.bool false)], args := [d1, d2, d3] }
  | _ => none }
def FnExactShardsWrongFalsely : Prop := fnExactShardsRow.holds Try.pinned (OpenSpec.ofChange fnExactShardsWrong)

/- THE SECOND FORM. 'bulk': how many values and letters a reading holds, each counted each time it is reached (what is shared counts as often as it is met; a slice's spare places count too). A statement '..UptoSaid' is the law's where the arguments, and the package variables that the reading takes, are together of bulk at most 1048576: NARROWER than '..Said'. Prove '..Said' where nothing that the law and all that it calls make is longer than what came in: it says more and counts as full. Else prove '..UptoSaid'. A law counts once. -/
mutual
def uptoBulk {H : Type} : DataW H → Nat
  | .lit (.string bytes) => bytes.length + 1
  | .lit _ => 1
  | .nil => 1
  | .ptr d => uptoBulk d + 1
  | .slice elems spare => uptoBulkAll elems + uptoBulkAll spare + 1
  | .agg parts => uptoBulkAll parts + 1
  | .iface _ d => uptoBulk d + 1
  | .map entries => uptoBulkEntries entries + 1
  | .held _ => 1
def uptoBulkAll {H : Type} : List (DataW H) → Nat
  | [] => 0
  | d :: r => uptoBulk d + uptoBulkAll r
def uptoBulkEntries {H : Type} : List (Lit × DataW H) → Nat
  | [] => 0
  | x :: r => uptoBulkEntry x + uptoBulkEntries r
def uptoBulkEntry {H : Type} : Lit × DataW H → Nat
  | (.string bytes, d) => bytes.length + uptoBulk d + 1
  | (_, d) => uptoBulk d + 1
 end
def uptoSmall : (H : Type) → List (DataW H) → Bool := fun _ ds => decide (uptoBulkAll ds ≤ 1048576)
def OpenSpec.upto (s : _root_.Go.ChangeSpec) : _root_.Go.OpenSpec := { _root_.Go.OpenSpec.ofChange s with cond := some uptoSmall }

/-- 'laws.FnExactSortOne', WHERE WHAT IT READS IS OF BULK AT MOST 1048576: true; the input reads as it did. -/
def fnExactSortOneUptoRow : OpenClaim := { program := "ythffmjeodoinlaa", sum := "459a73aa49ca0fd1c020a5b947d085333552c36d3ea56f07a526b54235169221", func := "loop.example/g00671/laws.FnExactSortOne", spec := "fnExactSortOne", inPlace := ["internal/reflectlite.ValueOf", "internal/reflectlite.Swapper", "(internal/reflectlite.Value).Len"], unfollowed := true, recurses := true, apart := false, narrowed := true }
def FnExactSortOneUptoSaid : Prop := fnExactSortOneUptoRow.holds Try.pinned (OpenSpec.upto fnExactSortOneSpec)

/-- 'laws.FnExactBatches', WHERE WHAT IT READS IS OF BULK AT MOST 1048576: true; the input reads as it did. -/
def fnExactBatchesUptoRow : OpenClaim := { program := "ythffmjeodoinlaa", sum := "459a73aa49ca0fd1c020a5b947d085333552c36d3ea56f07a526b54235169221", func := "loop.example/g00671/laws.FnExactBatches", spec := "fnExactBatches", inPlace := ["internal/reflectlite.ValueOf", "internal/reflectlite.Swapper", "(internal/reflectlite.Value).Len"], unfollowed := true, recurses := true, apart := false, narrowed := true }
def FnExactBatchesUptoSaid : Prop := fnExactBatchesUptoRow.holds Try.pinned (OpenSpec.upto fnExactBatchesSpec)

/-- 'laws.FnExactSortAll', WHERE WHAT IT READS IS OF BULK AT MOST 1048576: true; the input reads as it did. -/
def fnExactSortAllUptoRow : OpenClaim := { program := "ythffmjeodoinlaa", sum := "459a73aa49ca0fd1c020a5b947d085333552c36d3ea56f07a526b54235169221", func := "loop.example/g00671/laws.FnExactSortAll", spec := "fnExactSortAll", inPlace := ["internal/reflectlite.ValueOf", "internal/reflectlite.Swapper", "(internal/reflectlite.Value).Len"], unfollowed := true, recurses := true, apart := false, narrowed := true }
def FnExactSortAllUptoSaid : Prop := fnExactSortAllUptoRow.holds Try.pinned (OpenSpec.upto fnExactSortAllSpec)

/-- 'laws.FnSort', WHERE WHAT IT READS IS OF BULK AT MOST 1048576: true; the input reads as it did. -/
def fnSortUptoRow : OpenClaim := { program := "ythffmjeodoinlaa", sum := "459a73aa49ca0fd1c020a5b947d085333552c36d3ea56f07a526b54235169221", func := "loop.example/g00671/laws.FnSort", spec := "fnSort", inPlace := ["internal/reflectlite.ValueOf", "internal/reflectlite.Swapper", "(internal/reflectlite.Value).Len"], unfollowed := true, recurses := true, apart := false, narrowed := true }
def FnSortUptoSaid : Prop := fnSortUptoRow.holds Try.pinned (OpenSpec.upto fnSortSpec)

/-- 'laws.FnExactShards', WHERE WHAT IT READS IS OF BULK AT MOST 1048576: true; the input reads as it did. -/
def fnExactShardsUptoRow : OpenClaim := { program := "ythffmjeodoinlaa", sum := "459a73aa49ca0fd1c020a5b947d085333552c36d3ea56f07a526b54235169221", func := "loop.example/g00671/laws.FnExactShards", spec := "fnExactShards", inPlace := ["internal/reflectlite.ValueOf", "internal/reflectlite.Swapper", "(internal/reflectlite.Value).Len"], unfollowed := true, recurses := true, apart := false, narrowed := true }
def FnExactShardsUptoSaid : Prop := fnExactShardsUptoRow.holds Try.pinned (OpenSpec.upto fnExactShardsSpec)

end Rows
end Go.Proofs.Ythffmjeodoinlaa
