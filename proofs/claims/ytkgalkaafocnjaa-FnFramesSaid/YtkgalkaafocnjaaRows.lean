/-
  No cell of these rows narrows 'for every input' (looked for: loops, veiled, ifaces, maps, wideKeys, modest, calm, conditions, laid).
  DERIVED. THE GIVEN ROWS OF THIS SEAT. 12 by the template 'for every input the law returns true; each argument reads behind the call as it read before'; 0 by the template 'total and deterministic' (their statements: YtkgalkaafocnjaaTotals.lean).
  GIVEN WITH THE SEED: the statements are not yours to turn. If you find one false, say at which input.
  Laid BY PROGRAM, IN A SANDBOX (cutbox-rows.mjs): the forced cells as the released guide's own fill.sh prints them over the translation 1edcd555459ec819… (all of the seat's roots in one cut). By AI agents, Wed Nov 11 2026. No macro, syntax, notation, axiom, sorry.
-/
import Derived.Test.YtkgalkaafocnjaaChecked
import GoSem.Claim
import GoSem.ClaimJoined
import GoSem.ClaimMapViews
import Derived.JoinedTies
import Derived.KernelRfl
namespace Go.Proofs.Ytkgalkaafocnjaa
/- THE CELL 'sum', in the pinned program and in every row, IS THE sha256 OF THE DUMP (.gsa) THAT YtkgalkaafocnjaaProg.lean LOADS. Nothing in Lean hashes anything: it is a label: what it is worth is what the hold of that sum in a sandbox is worth. -/
noncomputable def Try.pinned : Pinned := { name := "ytkgalkaafocnjaa", sum := "1edcd555459ec819f3202ec734fda0e4824b5e2337832feae5115e3d91f5c4fe", checked := Try.checked }
namespace Rows
def none {H : Type} : Left H := { results := [], args := [] }

/-- 'laws.FnExactPutZig': WHATEVER THE INPUT: true; the input reads as it did. -/
def fnExactPutZigSpec : ChangeSpec := { name := "fnExactPutZig", fn := fun _ => fun
  | [d1, d2] => { results := [.lit (.bool true)], args := [d1, d2] }
  | _ => none }
def fnExactPutZigRow : OpenClaim := { program := "ytkgalkaafocnjaa", sum := "1edcd555459ec819f3202ec734fda0e4824b5e2337832feae5115e3d91f5c4fe", func := "loop.example/g00671/laws.FnExactPutZig", spec := "fnExactPutZig", apart := false }
def FnExactPutZigSaid : Prop := fnExactPutZigRow.holds Try.pinned (OpenSpec.ofChange fnExactPutZigSpec)

/-- ITS FALSE NEIGHBOUR: 'it returns false'. Refute it at one input. -/
def fnExactPutZigWrong : ChangeSpec := { name := "fnExactPutZig", fn := fun _ => fun
  | [d1, d2] => { results := [.lit (.bool false)], args := [d1, d2] }
  | _ => none }
def FnExactPutZigWrongFalsely : Prop := fnExactPutZigRow.holds Try.pinned (OpenSpec.ofChange fnExactPutZigWrong)

/-- 'laws.FnExactGetZig': WHATEVER THE INPUT: true; the input reads as it did. -/
def fnExactGetZigSpec : ChangeSpec := { name := "fnExactGetZig", fn := fun _ => fun
  | [d1, d2] => { results := [.lit (.bool true)], args := [d1, d2] }
  | _ => none }
def fnExactGetZigRow : OpenClaim := { program := "ytkgalkaafocnjaa", sum := "1edcd555459ec819f3202ec734fda0e4824b5e2337832feae5115e3d91f5c4fe", func := "loop.example/g00671/laws.FnExactGetZig", spec := "fnExactGetZig", apart := false }
def FnExactGetZigSaid : Prop := fnExactGetZigRow.holds Try.pinned (OpenSpec.ofChange fnExactGetZigSpec)

/-- ITS FALSE NEIGHBOUR: 'it returns false'. Refute it at one input. -/
def fnExactGetZigWrong : ChangeSpec := { name := "fnExactGetZig", fn := fun _ => fun
  | [d1, d2] => { results := [.lit (.bool false)], args := [d1, d2] }
  | _ => none }
def FnExactGetZigWrongFalsely : Prop := fnExactGetZigRow.holds Try.pinned (OpenSpec.ofChange fnExactGetZigWrong)

/-- 'laws.FnExactListBytes': WHATEVER THE INPUT: true; the input reads as it did. -/
def fnExactListBytesSpec : ChangeSpec := { name := "fnExactListBytes", fn := fun _ => fun
  | [d] => { results := [.lit (.bool true)], args := [d] }
  | _ => none }
def fnExactListBytesRow : OpenClaim := { program := "ytkgalkaafocnjaa", sum := "1edcd555459ec819f3202ec734fda0e4824b5e2337832feae5115e3d91f5c4fe", func := "loop.example/g00671/laws.FnExactListBytes", spec := "fnExactListBytes", apart := false }
def FnExactListBytesSaid : Prop := fnExactListBytesRow.holds Try.pinned (OpenSpec.ofChange fnExactListBytesSpec)

/-- ITS FALSE NEIGHBOUR: 'it returns false'. Refute it at one input. -/
def fnExactListBytesWrong : ChangeSpec := { name := "fnExactListBytes", fn := fun _ => fun
  | [d] => { results := [.lit (.bool false)], args := [d] }
  | _ => none }
def FnExactListBytesWrongFalsely : Prop := fnExactListBytesRow.holds Try.pinned (OpenSpec.ofChange fnExactListBytesWrong)

/-- 'laws.FnExactListRead': WHATEVER THE INPUT: true; the input reads as it did. -/
def fnExactListReadSpec : ChangeSpec := { name := "fnExactListRead", fn := fun _ => fun
  | [d1, d2] => { results := [.lit (.bool true)], args := [d1, d2] }
  | _ => none }
def fnExactListReadRow : OpenClaim := { program := "ytkgalkaafocnjaa", sum := "1edcd555459ec819f3202ec734fda0e4824b5e2337832feae5115e3d91f5c4fe", func := "loop.example/g00671/laws.FnExactListRead", spec := "fnExactListRead", apart := false }
def FnExactListReadSaid : Prop := fnExactListReadRow.holds Try.pinned (OpenSpec.ofChange fnExactListReadSpec)

/-- ITS FALSE NEIGHBOUR: 'it returns false'. Refute it at one input. -/
def fnExactListReadWrong : ChangeSpec := { name := "fnExactListRead", fn := fun _ => fun
  | [d1, d2] => { results := [.lit (.bool false)], args := [d1, d2] }
  | _ => none }
def FnExactListReadWrongFalsely : Prop := fnExactListReadRow.holds Try.pinned (OpenSpec.ofChange fnExactListReadWrong)

/-- 'laws.FnExactFrameBytes': WHATEVER THE INPUT: true; the input reads as it did. -/
def fnExactFrameBytesSpec : ChangeSpec := { name := "fnExactFrameBytes", fn := fun _ => fun
  | [d] => { results := [.lit (.bool true)], args := [d] }
  | _ => none }
def fnExactFrameBytesRow : OpenClaim := { program := "ytkgalkaafocnjaa", sum := "1edcd555459ec819f3202ec734fda0e4824b5e2337832feae5115e3d91f5c4fe", func := "loop.example/g00671/laws.FnExactFrameBytes", spec := "fnExactFrameBytes", apart := false }
def FnExactFrameBytesSaid : Prop := fnExactFrameBytesRow.holds Try.pinned (OpenSpec.ofChange fnExactFrameBytesSpec)

/-- ITS FALSE NEIGHBOUR: 'it returns false'. Refute it at one input. -/
def fnExactFrameBytesWrong : ChangeSpec := { name := "fnExactFrameBytes", fn := fun _ => fun
  | [d] => { results := [.lit (.bool false)], args := [d] }
  | _ => none }
def FnExactFrameBytesWrongFalsely : Prop := fnExactFrameBytesRow.holds Try.pinned (OpenSpec.ofChange fnExactFrameBytesWrong)

/-- 'laws.FnExactFrameRead': WHATEVER THE INPUT: true; the input reads as it did. -/
def fnExactFrameReadSpec : ChangeSpec := { name := "fnExactFrameRead", fn := fun _ => fun
  | [d1, d2] => { results := [.lit (.bool true)], args := [d1, d2] }
  | _ => none }
def fnExactFrameReadRow : OpenClaim := { program := "ytkgalkaafocnjaa", sum := "1edcd555459ec819f3202ec734fda0e4824b5e2337832feae5115e3d91f5c4fe", func := "loop.example/g00671/laws.FnExactFrameRead", spec := "fnExactFrameRead", apart := false }
def FnExactFrameReadSaid : Prop := fnExactFrameReadRow.holds Try.pinned (OpenSpec.ofChange fnExactFrameReadSpec)

/-- ITS FALSE NEIGHBOUR: 'it returns false'. Refute it at one input. -/
def fnExactFrameReadWrong : ChangeSpec := { name := "fnExactFrameRead", fn := fun _ => fun
  | [d1, d2] => { results := [.lit (.bool false)], args := [d1, d2] }
  | _ => none }
def FnExactFrameReadWrongFalsely : Prop := fnExactFrameReadRow.holds Try.pinned (OpenSpec.ofChange fnExactFrameReadWrong)

/-- 'laws.FnExactFrameOnly': WHATEVER THE INPUT: true; the input reads as it did. -/
def fnExactFrameOnlySpec : ChangeSpec := { name := "fnExactFrameOnly", fn := fun _ => fun
  | [d1, d2] => { results := [.lit (.bool true)], args := [d1, d2] }
  | _ => none }
def fnExactFrameOnlyRow : OpenClaim := { program := "ytkgalkaafocnjaa", sum := "1edcd555459ec819f3202ec734fda0e4824b5e2337832feae5115e3d91f5c4fe", func := "loop.example/g00671/laws.FnExactFrameOnly", spec := "fnExactFrameOnly", apart := false }
def FnExactFrameOnlySaid : Prop := fnExactFrameOnlyRow.holds Try.pinned (OpenSpec.ofChange fnExactFrameOnlySpec)

/-- ITS FALSE NEIGHBOUR: 'it returns false'. Refute it at one input. -/
def fnExactFrameOnlyWrong : ChangeSpec := { name := "fnExactFrameOnly", fn := fun _ => fun
  | [d1, d2] => { results := [.lit (.bool false)], args := [d1, d2] }
  | _ => none }
def FnExactFrameOnlyWrongFalsely : Prop := fnExactFrameOnlyRow.holds Try.pinned (OpenSpec.ofChange fnExactFrameOnlyWrong)

/-- 'laws.FnExactFramesRead': WHATEVER THE INPUT: true; the input reads as it did. -/
def fnExactFramesReadSpec : ChangeSpec := { name := "fnExactFramesRead", fn := fun _ => fun
  | [d] => { results := [.lit (.bool true)], args := [d] }
  | _ => none }
def fnExactFramesReadRow : OpenClaim := { program := "ytkgalkaafocnjaa", sum := "1edcd555459ec819f3202ec734fda0e4824b5e2337832feae5115e3d91f5c4fe", func := "loop.example/g00671/laws.FnExactFramesRead", spec := "fnExactFramesRead", apart := false }
def FnExactFramesReadSaid : Prop := fnExactFramesReadRow.holds Try.pinned (OpenSpec.ofChange fnExactFramesReadSpec)

/-- ITS FALSE NEIGHBOUR: 'it returns false'. Refute it at one input. -/
def fnExactFramesReadWrong : ChangeSpec := { name := "fnExactFramesRead", fn := fun _ => fun
  | [d] => { results := [.lit (.bool false)], args := [d] }
  | _ => none }
def FnExactFramesReadWrongFalsely : Prop := fnExactFramesReadRow.holds Try.pinned (OpenSpec.ofChange fnExactFramesReadWrong)

/-- 'laws.FnFrames': WHATEVER THE INPUT: true; the input reads as it did. -/
def fnFramesSpec : ChangeSpec := { name := "fnFrames", fn := fun _ => fun
  | [d] => { results := [.lit (.bool true)], args := [d] }
  | _ => none }
def fnFramesRow : OpenClaim := { program := "ytkgalkaafocnjaa", sum := "1edcd555459ec819f3202ec734fda0e4824b5e2337832feae5115e3d91f5c4fe", func := "loop.example/g00671/laws.FnFrames", spec := "fnFrames", apart := false }
def FnFramesSaid : Prop := fnFramesRow.holds Try.pinned (OpenSpec.ofChange fnFramesSpec)

/-- ITS FALSE NEIGHBOUR: 'it returns false'. Refute it at one input. -/
def fnFramesWrong : ChangeSpec := { name := "fnFrames", fn := fun _ => fun
  | [d] => { results := [.lit (.bool false)], args := [d] }
  | _ => none }
def FnFramesWrongFalsely : Prop := fnFramesRow.holds Try.pinned (OpenSpec.ofChange fnFramesWrong)

/-- 'laws.FnExactShardBytes': WHATEVER THE INPUT: true; the input reads as it did. -/
def fnExactShardBytesSpec : ChangeSpec := { name := "fnExactShardBytes", fn := fun _ => fun
  | [d] => { results := [.lit (.bool true)], args := [d] }
  | _ => none }
def fnExactShardBytesRow : OpenClaim := { program := "ytkgalkaafocnjaa", sum := "1edcd555459ec819f3202ec734fda0e4824b5e2337832feae5115e3d91f5c4fe", func := "loop.example/g00671/laws.FnExactShardBytes", spec := "fnExactShardBytes", apart := false }
def FnExactShardBytesSaid : Prop := fnExactShardBytesRow.holds Try.pinned (OpenSpec.ofChange fnExactShardBytesSpec)

/-- ITS FALSE NEIGHBOUR: 'it returns false'. Refute it at one input. -/
def fnExactShardBytesWrong : ChangeSpec := { name := "fnExactShardBytes", fn := fun _ => fun
  | [d] => { results := [.lit (.bool false)], args := [d] }
  | _ => none }
def FnExactShardBytesWrongFalsely : Prop := fnExactShardBytesRow.holds Try.pinned (OpenSpec.ofChange fnExactShardBytesWrong)

/-- 'laws.FnExactShardRead': WHATEVER THE INPUT: true; the input reads as it did. -/
def fnExactShardReadSpec : ChangeSpec := { name := "fnExactShardRead", fn := fun _ => fun
  | [d1, d2] => { results := [.lit (.bool true)], args := [d1, d2] }
  | _ => none }
def fnExactShardReadRow : OpenClaim := { program := "ytkgalkaafocnjaa", sum := "1edcd555459ec819f3202ec734fda0e4824b5e2337832feae5115e3d91f5c4fe", func := "loop.example/g00671/laws.FnExactShardRead", spec := "fnExactShardRead", apart := false }
def FnExactShardReadSaid : Prop := fnExactShardReadRow.holds Try.pinned (OpenSpec.ofChange fnExactShardReadSpec)

/-- ITS FALSE NEIGHBOUR: 'it returns false'. Refute it at one input. -/
def fnExactShardReadWrong : ChangeSpec := { name := "fnExactShardRead", fn := fun _ => fun
  | [d1, d2] => { results := [.lit (.bool false)], args := [d1, d2] }
  | _ => none }
def FnExactShardReadWrongFalsely : Prop := fnExactShardReadRow.holds Try.pinned (OpenSpec.ofChange fnExactShardReadWrong)

/-- 'laws.FnExactWithVals': WHATEVER THE INPUT: true; the input reads as it did. -/
def fnExactWithValsSpec : ChangeSpec := { name := "fnExactWithVals", fn := fun _ => fun
  | [d1, d2] => { results := [.lit (.bool true)], args := [d1, d2] }
  | _ => none }
def fnExactWithValsRow : OpenClaim := { program := "ytkgalkaafocnjaa", sum := "1edcd555459ec819f3202ec734fda0e4824b5e2337832feae5115e3d91f5c4fe", func := "loop.example/g00671/laws.FnExactWithVals", spec := "fnExactWithVals", apart := false }
def FnExactWithValsSaid : Prop := fnExactWithValsRow.holds Try.pinned (OpenSpec.ofChange fnExactWithValsSpec)

/-- ITS FALSE NEIGHBOUR: 'it returns false'. Refute it at one input. -/
def fnExactWithValsWrong : ChangeSpec := { name := "fnExactWithVals", fn := fun _ => fun
  | [d1, d2] => { results := [.lit (.bool false)], args := [d1, d2] }
  | _ => none }
def FnExactWithValsWrongFalsely : Prop := fnExactWithValsRow.holds Try.pinned (OpenSpec.ofChange fnExactWithValsWrong)

/- THE SECOND FORM. 'bulk': how many values and letters a reading holds, each counted each time it is reached (what is shared counts as often as it is met; a slice's spare places count too). A statement '..UptoSaid' is the law's where the arguments, and the package variables that the reading takes, are together of bulk at most 1048576: NARROWER than '..Said'. Prove '..Said' where nothing that the law and all that it calls make is longer than what came in: it says more and counts as full. Else prove '..UptoSaid'. A law counts once. -/
mutual
def uptoBulk {H : Type} : DataW H → Nat
  | .lit (.string bytes) => bytes.length + 1
  | .lit _ => 1
  | .nil => 1
  | .ptr d => uptoBulk d + 1
  | .slice elems spare => uptoBulkAll elems + uptoBulkAll spare + 1
  | .agg parts => uptoBulkAll parts + 1
  | .iface _ d => uptoBulk d + 1
  | .map entries => uptoBulkEntries entries + 1
  | .held _ => 1
def uptoBulkAll {H : Type} : List (DataW H) → Nat
  | [] => 0
  | d :: r => uptoBulk d + uptoBulkAll r
def uptoBulkEntries {H : Type} : List (Lit × DataW H) → Nat
  | [] => 0
  | x :: r => uptoBulkEntry x + uptoBulkEntries r
def uptoBulkEntry {H : Type} : Lit × DataW H → Nat
  | (.string bytes, d) => bytes.length + uptoBulk d + 1
  | (_, d) => uptoBulk d + 1
 end
def uptoSmall : (H : Type) → List (DataW H) → Bool := fun _ ds => decide (uptoBulkAll ds ≤ 1048576)
def OpenSpec.upto (s : _root_.Go.ChangeSpec) : _root_.Go.OpenSpec := { _root_.Go.OpenSpec.ofChange s with cond := some uptoSmall }

/-- 'laws.FnExactPutZig', WHERE WHAT IT READS IS OF BULK AT MOST 1048576: true; the input reads as it did. -/
def fnExactPutZigUptoRow : OpenClaim := { program := "ytkgalkaafocnjaa", sum := "1edcd555459ec819f3202ec734fda0e4824b5e2337832feae5115e3d91f5c4fe", func := "loop.example/g00671/laws.FnExactPutZig", spec := "fnExactPutZig", apart := false, narrowed := true }
def FnExactPutZigUptoSaid : Prop := fnExactPutZigUptoRow.holds Try.pinned (OpenSpec.upto fnExactPutZigSpec)

/-- 'laws.FnExactGetZig', WHERE WHAT IT READS IS OF BULK AT MOST 1048576: true; the input reads as it did. -/
def fnExactGetZigUptoRow : OpenClaim := { program := "ytkgalkaafocnjaa", sum := "1edcd555459ec819f3202ec734fda0e4824b5e2337832feae5115e3d91f5c4fe", func := "loop.example/g00671/laws.FnExactGetZig", spec := "fnExactGetZig", apart := false, narrowed := true }
def FnExactGetZigUptoSaid : Prop := fnExactGetZigUptoRow.holds Try.pinned (OpenSpec.upto fnExactGetZigSpec)

/-- 'laws.FnExactListBytes', WHERE WHAT IT READS IS OF BULK AT MOST 1048576: true; the input reads as it did. -/
def fnExactListBytesUptoRow : OpenClaim := { program := "ytkgalkaafocnjaa", sum := "1edcd555459ec819f3202ec734fda0e4824b5e2337832feae5115e3d91f5c4fe", func := "loop.example/g00671/laws.FnExactListBytes", spec := "fnExactListBytes", apart := false, narrowed := true }
def FnExactListBytesUptoSaid : Prop := fnExactListBytesUptoRow.holds Try.pinned (OpenSpec.upto fnExactListBytesSpec)

/-- 'laws.FnExactListRead', WHERE WHAT IT READS IS OF BULK AT MOST 1048576: true; the input reads as it did. -/
def fnExactListReadUptoRow : OpenClaim := { program := "ytkgalkaafocnjaa", sum := "1edcd555459ec819f3202ec734fda0e4824b5e2337832feae5115e3d91f5c4fe", func := "loop.example/g00671/laws.FnExactListRead", spec := "fnExactListRead", apart := false, narrowed := true }
def FnExactListReadUptoSaid : Prop := fnExactListReadUptoRow.holds Try.pinned (OpenSpec.upto fnExactListReadSpec)

/-- 'laws.FnExactFrameBytes', WHERE WHAT IT READS IS OF BULK AT MOST 1048576: true; the input reads as it did. -/
def fnExactFrameBytesUptoRow : OpenClaim := { program := "ytkgalkaafocnjaa", sum := "1edcd555459ec819f3202ec734fda0e4824b5e2337832feae5115e3d91f5c4fe", func := "loop.example/g00671/laws.FnExactFrameBytes", spec := "fnExactFrameBytes", apart := false, narrowed := true }
def FnExactFrameBytesUptoSaid : Prop := fnExactFrameBytesUptoRow.holds Try.pinned (OpenSpec.upto fnExactFrameBytesSpec)

/-- 'laws.FnExactFrameRead', WHERE WHAT IT READS IS OF BULK AT MOST 1048576: true; the input reads as it did. -/
def fnExactFrameReadUptoRow : OpenClaim := { program := "ytkgalkaafocnjaa", sum := "1edcd555459ec819f3202ec734fda0e4824b5e2337832feae5115e3d91f5c4fe", func := "loop.example/g00671/laws.FnExactFrameRead", spec := "fnExactFrameRead", apart := false, narrowed := true }
def FnExactFrameReadUptoSaid : Prop := fnExactFrameReadUptoRow.holds Try.pinned (OpenSpec.upto fnExactFrameReadSpec)

/-- 'laws.FnExactFrameOnly', WHERE WHAT IT READS IS OF BULK AT MOST 1048576: true; the input reads as it did. -/
def fnExactFrameOnlyUptoRow : OpenClaim := { program := "ytkgalkaafocnjaa", sum := "1edcd555459ec819f3202ec734fda0e4824b5e2337832feae5115e3d91f5c4fe", func := "loop.example/g00671/laws.FnExactFrameOnly", spec := "fnExactFrameOnly", apart := false, narrowed := true }
def FnExactFrameOnlyUptoSaid : Prop := fnExactFrameOnlyUptoRow.holds Try.pinned (OpenSpec.upto fnExactFrameOnlySpec)

/-- 'laws.FnExactFramesRead', WHERE WHAT IT READS IS OF BULK AT MOST 1048576: true; the input reads as it did. -/
def fnExactFramesReadUptoRow : OpenClaim := { program := "ytkgalkaafocnjaa", sum := "1edcd555459ec819f3202ec734fda0e4824b5e2337832feae5115e3d91f5c4fe", func := "loop.example/g00671/laws.FnExactFramesRead", spec := "fnExactFramesRead", apart := false, narrowed := true }
def FnExactFramesReadUptoSaid : Prop := fnExactFramesReadUptoRow.holds Try.pinned (OpenSpec.upto fnExactFramesReadSpec)

/-- 'laws.FnFrames', WHERE WHAT IT READS IS OF BULK AT MOST 1048576: true; the input reads as it did. -/
def fnFramesUptoRow : OpenClaim := { program := "ytkgalkaafocnjaa", sum := "1edcd555459ec819f3202ec734fda0e4824b5e2337832feae5115e3d91f5c4fe", func := "loop.example/g00671/laws.FnFrames", spec := "fnFrames", apart := false, narrowed := true }
def FnFramesUptoSaid : Prop := fnFramesUptoRow.holds Try.pinned (OpenSpec.upto fnFramesSpec)

/-- 'laws.FnExactShardBytes', WHERE WHAT IT READS IS OF BULK AT MOST 1048576: true; the input reads as it did. -/
def fnExactShardBytesUptoRow : OpenClaim := { program := "ytkgalkaafocnjaa", sum := "1edcd555459ec819f3202ec734fda0e4824b5e2337832feae5115e3d91f5c4fe", func := "loop.example/g00671/laws.FnExactShardBytes", spec := "fnExactShardBytes", apart := false, narrowed := true }
def FnExactShardBytesUptoSaid : Prop := fnExactShardBytesUptoRow.holds Try.pinned (OpenSpec.upto fnExactShardBytesSpec)

/-- 'laws.FnExactShardRead', WHERE WHAT IT READS IS OF BULK AT MOST 1048576: true; the input reads as it did. -/
def fnExactShardReadUptoRow : OpenClaim := { program := "ytkgalkaafocnjaa", sum := "1edcd555459ec819f3202ec734fda0e4824b5e2337832feae5115e3d91f5c4fe", func := "loop.example/g00671/laws.FnExactShardRead", spec := "fnExactShardRead", apart := false, narrowed := true }
def FnExactShardReadUptoSaid : Prop := fnExactShardReadUptoRow.holds Try.pinned (OpenSpec.upto fnExactShardReadSpec)

/-- 'laws.FnExactWithVals', WHERE WHAT IT READS IS OF BULK AT MOST 1048576: true; the input reads as it did. -/
def fnExactWithValsUptoRow : OpenClaim := { program := "ytkgalkaafocnjaa", sum := "1edcd555459ec819f3202ec734fda0e4824b5e2337832feae5115e3d91f5c4fe", func := "loop.example/g00671/laws.FnExactWithVals", spec := "fnExactWithVals", apart := false, narrowed := true }
def FnExactWithValsUptoSaid : Prop := fnExactWithValsUptoRow.holds Try.pinned (OpenSpec.upto fnExactWithValsSpec)

end Rows
end Go.Proofs.Ytkgalkaafocnjaa
