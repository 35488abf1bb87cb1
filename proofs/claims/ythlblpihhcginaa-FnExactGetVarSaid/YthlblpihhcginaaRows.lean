/-
  No cell of these rows narrows 'for every input' (looked for: loops, veiled, ifaces, maps, wideKeys, modest, calm, conditions, laid).
  DERIVED. THE GIVEN ROWS OF THIS SEAT. 12 by the template 'for every input the law returns true; each argument reads behind the call as it read before'; 0 by the template 'total and deterministic' (their statements: YthlblpihhcginaaTotals.lean).
  GIVEN WITH THE SEED: the statements are not yours to turn. If you find one false, say at which input.
  Laid BY PROGRAM, IN A SANDBOX (cutbox-rows.mjs): the forced cells as the released guide's own fill.sh prints them over the translation 1e60d0ad1e6b04e4… (all of the seat's roots in one cut). By AI agents, Wed Nov 11 2026. No macro, syntax, notation, axiom, sorry.
-/
import Derived.Test.YthlblpihhcginaaChecked
import GoSem.Claim
import GoSem.ClaimJoined
import GoSem.ClaimMapViews
import Derived.JoinedTies
import Derived.KernelRfl
namespace Go.Proofs.Ythlblpihhcginaa
/- THE CELL 'sum', in the pinned program and in every row, IS THE sha256 OF THE DUMP (.gsa) THAT YthlblpihhcginaaProg.lean LOADS. Nothing in Lean hashes anything: it is a label: what it is worth is what the hold of that sum in a sandbox is worth. -/
noncomputable def Try.pinned : Pinned := { name := "ythlblpihhcginaa", sum := "1e60d0ad1e6b04e454da5efb27c180c1f687fe08fcd05a27772cfbabfa53e605", checked := Try.checked }
namespace Rows
def none {H : Type} : Left H := { results := [], args := [] }

/-- 'laws.FnExactConstants': WHATEVER THE INPUT: true; the input reads as it did. -/
def fnExactConstantsSpec : ChangeSpec := { name := "fnExactConstants", fn := fun _ => fun
  | [] => { results := [.lit (.bool true)], args := [] }
  | _ => none }
def fnExactConstantsRow : OpenClaim := { program := "ythlblpihhcginaa", sum := "1e60d0ad1e6b04e454da5efb27c180c1f687fe08fcd05a27772cfbabfa53e605", func := "loop.example/g00671/laws.FnExactConstants", spec := "fnExactConstants", apart := false }
def FnExactConstantsSaid : Prop := fnExactConstantsRow.holds Try.pinned (OpenSpec.ofChange fnExactConstantsSpec)

/-- ITS FALSE NEIGHBOUR: 'it returns false'. Refute it at one input. -/
def fnExactConstantsWrong : ChangeSpec := { name := "fnExactConstants", fn := fun _ => fun
  | [] => { results := [.lit (.bool false)], args := [] }
  | _ => none }
def FnExactConstantsWrongFalsely : Prop := fnExactConstantsRow.holds Try.pinned (OpenSpec.ofChange fnExactConstantsWrong)

/-- 'laws.FnExactNameOk': WHATEVER THE INPUT: true; the input reads as it did. -/
def fnExactNameOkSpec : ChangeSpec := { name := "fnExactNameOk", fn := fun _ => fun
  | [d] => { results := [.lit (.bool true)], args := [d] }
  | _ => none }
def fnExactNameOkRow : OpenClaim := { program := "ythlblpihhcginaa", sum := "1e60d0ad1e6b04e454da5efb27c180c1f687fe08fcd05a27772cfbabfa53e605", func := "loop.example/g00671/laws.FnExactNameOk", spec := "fnExactNameOk", apart := false }
def FnExactNameOkSaid : Prop := fnExactNameOkRow.holds Try.pinned (OpenSpec.ofChange fnExactNameOkSpec)

/-- ITS FALSE NEIGHBOUR: 'it returns false'. Refute it at one input. -/
def fnExactNameOkWrong : ChangeSpec := { name := "fnExactNameOk", fn := fun _ => fun
  | [d] => { results := [.lit (.bool false)], args := [d] }
  | _ => none }
def FnExactNameOkWrongFalsely : Prop := fnExactNameOkRow.holds Try.pinned (OpenSpec.ofChange fnExactNameOkWrong)

/-- 'laws.FnExactLess': WHATEVER THE INPUT: true; the input reads as it did. -/
def fnExactLessSpec : ChangeSpec := { name := "fnExactLess", fn := fun _ => fun
  | [d1, d2] => { results := [.lit (.bool true)], args := [d1, d2] }
  | _ => none }
def fnExactLessRow : OpenClaim := { program := "ythlblpihhcginaa", sum := "1e60d0ad1e6b04e454da5efb27c180c1f687fe08fcd05a27772cfbabfa53e605", func := "loop.example/g00671/laws.FnExactLess", spec := "fnExactLess", apart := false }
def FnExactLessSaid : Prop := fnExactLessRow.holds Try.pinned (OpenSpec.ofChange fnExactLessSpec)

/-- ITS FALSE NEIGHBOUR: 'it returns false'. Refute it at one input. -/
def fnExactLessWrong : ChangeSpec := { name := "fnExactLess", fn := fun _ => fun
  | [d1, d2] => { results := [.lit (.bool false)], args := [d1, d2] }
  | _ => none }
def FnExactLessWrongFalsely : Prop := fnExactLessRow.holds Try.pinned (OpenSpec.ofChange fnExactLessWrong)

/-- 'laws.FnExactSpan': WHATEVER THE INPUT: true; the input reads as it did. -/
def fnExactSpanSpec : ChangeSpec := { name := "fnExactSpan", fn := fun _ => fun
  | [d1, d2] => { results := [.lit (.bool true)], args := [d1, d2] }
  | _ => none }
def fnExactSpanRow : OpenClaim := { program := "ythlblpihhcginaa", sum := "1e60d0ad1e6b04e454da5efb27c180c1f687fe08fcd05a27772cfbabfa53e605", func := "loop.example/g00671/laws.FnExactSpan", spec := "fnExactSpan", apart := false }
def FnExactSpanSaid : Prop := fnExactSpanRow.holds Try.pinned (OpenSpec.ofChange fnExactSpanSpec)

/-- ITS FALSE NEIGHBOUR: 'it returns false'. Refute it at one input. -/
def fnExactSpanWrong : ChangeSpec := { name := "fnExactSpan", fn := fun _ => fun
  | [d1, d2] => { results := [.lit (.bool false)], args := [d1, d2] }
  | _ => none }
def FnExactSpanWrongFalsely : Prop := fnExactSpanRow.holds Try.pinned (OpenSpec.ofChange fnExactSpanWrong)

/-- 'laws.FnExactGetFix': WHATEVER THE INPUT: true; the input reads as it did. -/
def fnExactGetFixSpec : ChangeSpec := { name := "fnExactGetFix", fn := fun _ => fun
  | [d1, d2] => { results := [.lit (.bool true)], args := [d1, d2] }
  | _ => none }
def fnExactGetFixRow : OpenClaim := { program := "ythlblpihhcginaa", sum := "1e60d0ad1e6b04e454da5efb27c180c1f687fe08fcd05a27772cfbabfa53e605", func := "loop.example/g00671/laws.FnExactGetFix", spec := "fnExactGetFix", apart := false }
def FnExactGetFixSaid : Prop := fnExactGetFixRow.holds Try.pinned (OpenSpec.ofChange fnExactGetFixSpec)

/-- ITS FALSE NEIGHBOUR: 'it returns false'. Refute it at one input. -/
def fnExactGetFixWrong : ChangeSpec := { name := "fnExactGetFix", fn := fun _ => fun
  | [d1, d2] => { results := [.lit (.bool false)], args := [d1, d2] }
  | _ => none }
def FnExactGetFixWrongFalsely : Prop := fnExactGetFixRow.holds Try.pinned (OpenSpec.ofChange fnExactGetFixWrong)

/-- 'laws.FnExactEndsOk': WHATEVER THE INPUT: true; the input reads as it did. -/
def fnExactEndsOkSpec : ChangeSpec := { name := "fnExactEndsOk", fn := fun _ => fun
  | [d1, d2] => { results := [.lit (.bool true)], args := [d1, d2] }
  | _ => none }
def fnExactEndsOkRow : OpenClaim := { program := "ythlblpihhcginaa", sum := "1e60d0ad1e6b04e454da5efb27c180c1f687fe08fcd05a27772cfbabfa53e605", func := "loop.example/g00671/laws.FnExactEndsOk", spec := "fnExactEndsOk", apart := false }
def FnExactEndsOkSaid : Prop := fnExactEndsOkRow.holds Try.pinned (OpenSpec.ofChange fnExactEndsOkSpec)

/-- ITS FALSE NEIGHBOUR: 'it returns false'. Refute it at one input. -/
def fnExactEndsOkWrong : ChangeSpec := { name := "fnExactEndsOk", fn := fun _ => fun
  | [d1, d2] => { results := [.lit (.bool false)], args := [d1, d2] }
  | _ => none }
def FnExactEndsOkWrongFalsely : Prop := fnExactEndsOkRow.holds Try.pinned (OpenSpec.ofChange fnExactEndsOkWrong)

/-- 'laws.FnExactIntervalOf': WHATEVER THE INPUT: true; the input reads as it did. -/
def fnExactIntervalOfSpec : ChangeSpec := { name := "fnExactIntervalOf", fn := fun _ => fun
  | [d1, d2] => { results := [.lit (.bool true)], args := [d1, d2] }
  | _ => none }
def fnExactIntervalOfRow : OpenClaim := { program := "ythlblpihhcginaa", sum := "1e60d0ad1e6b04e454da5efb27c180c1f687fe08fcd05a27772cfbabfa53e605", func := "loop.example/g00671/laws.FnExactIntervalOf", spec := "fnExactIntervalOf", apart := false }
def FnExactIntervalOfSaid : Prop := fnExactIntervalOfRow.holds Try.pinned (OpenSpec.ofChange fnExactIntervalOfSpec)

/-- ITS FALSE NEIGHBOUR: 'it returns false'. Refute it at one input. -/
def fnExactIntervalOfWrong : ChangeSpec := { name := "fnExactIntervalOf", fn := fun _ => fun
  | [d1, d2] => { results := [.lit (.bool false)], args := [d1, d2] }
  | _ => none }
def FnExactIntervalOfWrongFalsely : Prop := fnExactIntervalOfRow.holds Try.pinned (OpenSpec.ofChange fnExactIntervalOfWrong)

/-- 'laws.FnExactCrc': WHATEVER THE INPUT: true; the input reads as it did. -/
def fnExactCrcSpec : ChangeSpec := { name := "fnExactCrc", fn := fun _ => fun
  | [d] => { results := [.lit (.bool true)], args := [d] }
  | _ => none }
def fnExactCrcRow : OpenClaim := { program := "ythlblpihhcginaa", sum := "1e60d0ad1e6b04e454da5efb27c180c1f687fe08fcd05a27772cfbabfa53e605", func := "loop.example/g00671/laws.FnExactCrc", spec := "fnExactCrc", apart := false }
def FnExactCrcSaid : Prop := fnExactCrcRow.holds Try.pinned (OpenSpec.ofChange fnExactCrcSpec)

/-- ITS FALSE NEIGHBOUR: 'it returns false'. Refute it at one input. -/
def fnExactCrcWrong : ChangeSpec := { name := "fnExactCrc", fn := fun _ => fun
  | [d] => { results := [.lit (.bool false)], args := [d] }
  | _ => none }
def FnExactCrcWrongFalsely : Prop := fnExactCrcRow.holds Try.pinned (OpenSpec.ofChange fnExactCrcWrong)

/-- 'laws.FnExactFrameOk': WHATEVER THE INPUT: true; the input reads as it did. -/
def fnExactFrameOkSpec : ChangeSpec := { name := "fnExactFrameOk", fn := fun _ => fun
  | [d] => { results := [.lit (.bool true)], args := [d] }
  | _ => none }
def fnExactFrameOkRow : OpenClaim := { program := "ythlblpihhcginaa", sum := "1e60d0ad1e6b04e454da5efb27c180c1f687fe08fcd05a27772cfbabfa53e605", func := "loop.example/g00671/laws.FnExactFrameOk", spec := "fnExactFrameOk", apart := false }
def FnExactFrameOkSaid : Prop := fnExactFrameOkRow.holds Try.pinned (OpenSpec.ofChange fnExactFrameOkSpec)

/-- ITS FALSE NEIGHBOUR: 'it returns false'. Refute it at one input. -/
def fnExactFrameOkWrong : ChangeSpec := { name := "fnExactFrameOk", fn := fun _ => fun
  | [d] => { results := [.lit (.bool false)], args := [d] }
  | _ => none }
def FnExactFrameOkWrongFalsely : Prop := fnExactFrameOkRow.holds Try.pinned (OpenSpec.ofChange fnExactFrameOkWrong)

/-- 'laws.FnExactPutVar': WHATEVER THE INPUT: true; the input reads as it did. -/
def fnExactPutVarSpec : ChangeSpec := { name := "fnExactPutVar", fn := fun _ => fun
  | [d1, d2] => { results := [.lit (.bool true)], args := [d1, d2] }
  | _ => none }
def fnExactPutVarRow : OpenClaim := { program := "ythlblpihhcginaa", sum := "1e60d0ad1e6b04e454da5efb27c180c1f687fe08fcd05a27772cfbabfa53e605", func := "loop.example/g00671/laws.FnExactPutVar", spec := "fnExactPutVar", apart := false }
def FnExactPutVarSaid : Prop := fnExactPutVarRow.holds Try.pinned (OpenSpec.ofChange fnExactPutVarSpec)

/-- ITS FALSE NEIGHBOUR: 'it returns false'. Refute it at one input. -/
def fnExactPutVarWrong : ChangeSpec := { name := "fnExactPutVar", fn := fun _ => fun
  | [d1, d2] => { results := [.lit (.bool false)], args := [d1, d2] }
  | _ => none }
def FnExactPutVarWrongFalsely : Prop := fnExactPutVarRow.holds Try.pinned (OpenSpec.ofChange fnExactPutVarWrong)

/-- 'laws.FnExactPutFix': WHATEVER THE INPUT: true; the input reads as it did. -/
def fnExactPutFixSpec : ChangeSpec := { name := "fnExactPutFix", fn := fun _ => fun
  | [d1, d2] => { results := [.lit (.bool true)], args := [d1, d2] }
  | _ => none }
def fnExactPutFixRow : OpenClaim := { program := "ythlblpihhcginaa", sum := "1e60d0ad1e6b04e454da5efb27c180c1f687fe08fcd05a27772cfbabfa53e605", func := "loop.example/g00671/laws.FnExactPutFix", spec := "fnExactPutFix", apart := false }
def FnExactPutFixSaid : Prop := fnExactPutFixRow.holds Try.pinned (OpenSpec.ofChange fnExactPutFixSpec)

/-- ITS FALSE NEIGHBOUR: 'it returns false'. Refute it at one input. -/
def fnExactPutFixWrong : ChangeSpec := { name := "fnExactPutFix", fn := fun _ => fun
  | [d1, d2] => { results := [.lit (.bool false)], args := [d1, d2] }
  | _ => none }
def FnExactPutFixWrongFalsely : Prop := fnExactPutFixRow.holds Try.pinned (OpenSpec.ofChange fnExactPutFixWrong)

/-- 'laws.FnExactGetVar': WHATEVER THE INPUT: true; the input reads as it did. -/
def fnExactGetVarSpec : ChangeSpec := { name := "fnExactGetVar", fn := fun _ => fun
  | [d1, d2] => { results := [.lit (.bool true)], args := [d1, d2] }
  | _ => none }
def fnExactGetVarRow : OpenClaim := { program := "ythlblpihhcginaa", sum := "1e60d0ad1e6b04e454da5efb27c180c1f687fe08fcd05a27772cfbabfa53e605", func := "loop.example/g00671/laws.FnExactGetVar", spec := "fnExactGetVar", apart := false }
def FnExactGetVarSaid : Prop := fnExactGetVarRow.holds Try.pinned (OpenSpec.ofChange fnExactGetVarSpec)

/-- ITS FALSE NEIGHBOUR: 'it returns false'. Refute it at one input. -/
def fnExactGetVarWrong : ChangeSpec := { name := "fnExactGetVar", fn := fun _ => fun
  | [d1, d2] => { results := [.lit (.bool false)], args := [d1, d2] }
  | _ => none }
def FnExactGetVarWrongFalsely : Prop := fnExactGetVarRow.holds Try.pinned (OpenSpec.ofChange fnExactGetVarWrong)

/- THE SECOND FORM. 'bulk': how many values and letters a reading holds, each counted each time it is reached (what is shared counts as often as it is met; a slice's spare places count too). A statement '..UptoSaid' is the law's where the arguments, and the package variables that the reading takes, are together of bulk at most 1048576: NARROWER than '..Said'. Prove '..Said' where nothing that the law and all that it calls make is longer than what came in: it says more and counts as full. Else prove '..UptoSaid'. A law counts once. -/
mutual
def uptoBulk {H : Type} : DataW H → Nat
  | .lit (.string bytes) => bytes.length + 1
  | .lit _ => 1
  | .nil => 1
  | .ptr d => uptoBulk d + 1
  | .slice elems spare => uptoBulkAll elems + uptoBulkAll spare + 1
  | .agg parts => uptoBulkAll parts + 1
  | .iface _ d => uptoBulk d + 1
  | .map entries => uptoBulkEntries entries + 1
  | .held _ => 1
def uptoBulkAll {H : Type} : List (DataW H) → Nat
  | [] => 0
  | d :: r => uptoBulk d + uptoBulkAll r
def uptoBulkEntries {H : Type} : List (Lit × DataW H) → Nat
  | [] => 0
  | x :: r => uptoBulkEntry x + uptoBulkEntries r
def uptoBulkEntry {H : Type} : Lit × DataW H → Nat
  | (.string bytes, d) => bytes.length + uptoBulk d + 1
  | (_, d) => uptoBulk d + 1
 end
def uptoSmall : (H : Type) → List (DataW H) → Bool := fun _ ds => decide (uptoBulkAll ds ≤ 1048576)
def OpenSpec.upto (s : _root_.Go.ChangeSpec) : _root_.Go.OpenSpec := { _root_.Go.OpenSpec.ofChange s with cond := some uptoSmall }

/-- 'laws.FnExactConstants', WHERE WHAT IT READS IS OF BULK AT MOST 1048576: true; the input reads as it did. -/
def fnExactConstantsUptoRow : OpenClaim := { program := "ythlblpihhcginaa", sum := "1e60d0ad1e6b04e454da5efb27c180c1f687fe08fcd05a27772cfbabfa53e605", func := "loop.example/g00671/laws.FnExactConstants", spec := "fnExactConstants", apart := false, narrowed := true }
def FnExactConstantsUptoSaid : Prop := fnExactConstantsUptoRow.holds Try.pinned (OpenSpec.upto fnExactConstantsSpec)

/-- 'laws.FnExactNameOk', WHERE WHAT IT READS IS OF BULK AT MOST 1048576: true; the input reads as it did. -/
def fnExactNameOkUptoRow : OpenClaim := { program := "ythlblpihhcginaa", sum := "1e60d0ad1e6b04e454da5efb27c180c1f687fe08fcd05a27772cfbabfa53e605", func := "loop.example/g00671/laws.FnExactNameOk", spec := "fnExactNameOk", apart := false, narrowed := true }
def FnExactNameOkUptoSaid : Prop := fnExactNameOkUptoRow.holds Try.pinned (OpenSpec.upto fnExactNameOkSpec)

/-- 'laws.FnExactLess', WHERE WHAT IT READS IS OF BULK AT MOST 1048576: true; the input reads as it did. -/
def fnExactLessUptoRow : OpenClaim := { program := "ythlblpihhcginaa", sum := "1e60d0ad1e6b04e454da5efb27c180c1f687fe08fcd05a27772cfbabfa53e605", func := "loop.example/g00671/laws.FnExactLess", spec := "fnExactLess", apart := false, narrowed := true }
def FnExactLessUptoSaid : Prop := fnExactLessUptoRow.holds Try.pinned (OpenSpec.upto fnExactLessSpec)

/-- 'laws.FnExactSpan', WHERE WHAT IT READS IS OF BULK AT MOST 1048576: true; the input reads as it did. -/
def fnExactSpanUptoRow : OpenClaim := { program := "ythlblpihhcginaa", sum := "1e60d0ad1e6b04e454da5efb27c180c1f687fe08fcd05a27772cfbabfa53e605", func := "loop.example/g00671/laws.FnExactSpan", spec := "fnExactSpan", apart := false, narrowed := true }
def FnExactSpanUptoSaid : Prop := fnExactSpanUptoRow.holds Try.pinned (OpenSpec.upto fnExactSpanSpec)

/-- 'laws.FnExactGetFix', WHERE WHAT IT READS IS OF BULK AT MOST 1048576: true; the input reads as it did. -/
def fnExactGetFixUptoRow : OpenClaim := { program := "ythlblpihhcginaa", sum := "1e60d0ad1e6b04e454da5efb27c180c1f687fe08fcd05a27772cfbabfa53e605", func := "loop.example/g00671/laws.FnExactGetFix", spec := "fnExactGetFix", apart := false, narrowed := true }
def FnExactGetFixUptoSaid : Prop := fnExactGetFixUptoRow.holds Try.pinned (OpenSpec.upto fnExactGetFixSpec)

/-- 'laws.FnExactEndsOk', WHERE WHAT IT READS IS OF BULK AT MOST 1048576: true; the input reads as it did. -/
def fnExactEndsOkUptoRow : OpenClaim := { program := "ythlblpihhcginaa", sum := "1e60d0ad1e6b04e454da5efb27c180c1f687fe08fcd05a27772cfbabfa53e605", func := "loop.example/g00671/laws.FnExactEndsOk", spec := "fnExactEndsOk", apart := false, narrowed := true }
def FnExactEndsOkUptoSaid : Prop := fnExactEndsOkUptoRow.holds Try.pinned (OpenSpec.upto fnExactEndsOkSpec)

/-- 'laws.FnExactIntervalOf', WHERE WHAT IT READS IS OF BULK AT MOST 1048576: true; the input reads as it did. -/
def fnExactIntervalOfUptoRow : OpenClaim := { program := "ythlblpihhcginaa", sum := "1e60d0ad1e6b04e454da5efb27c180c1f687fe08fcd05a27772cfbabfa53e605", func := "loop.example/g00671/laws.FnExactIntervalOf", spec := "fnExactIntervalOf", apart := false, narrowed := true }
def FnExactIntervalOfUptoSaid : Prop := fnExactIntervalOfUptoRow.holds Try.pinned (OpenSpec.upto fnExactIntervalOfSpec)

/-- 'laws.FnExactCrc', WHERE WHAT IT READS IS OF BULK AT MOST 1048576: true; the input reads as it did. -/
def fnExactCrcUptoRow : OpenClaim := { program := "ythlblpihhcginaa", sum := "1e60d0ad1e6b04e454da5efb27c180c1f687fe08fcd05a27772cfbabfa53e605", func := "loop.example/g00671/laws.FnExactCrc", spec := "fnExactCrc", apart := false, narrowed := true }
def FnExactCrcUptoSaid : Prop := fnExactCrcUptoRow.holds Try.pinned (OpenSpec.upto fnExactCrcSpec)

/-- 'laws.FnExactFrameOk', WHERE WHAT IT READS IS OF BULK AT MOST 1048576: true; the input reads as it did. -/
def fnExactFrameOkUptoRow : OpenClaim := { program := "ythlblpihhcginaa", sum := "1e60d0ad1e6b04e454da5efb27c180c1f687fe08fcd05a27772cfbabfa53e605", func := "loop.example/g00671/laws.FnExactFrameOk", spec := "fnExactFrameOk", apart := false, narrowed := true }
def FnExactFrameOkUptoSaid : Prop := fnExactFrameOkUptoRow.holds Try.pinned (OpenSpec.upto fnExactFrameOkSpec)

/-- 'laws.FnExactPutVar', WHERE WHAT IT READS IS OF BULK AT MOST 1048576: true; the input reads as it did. -/
def fnExactPutVarUptoRow : OpenClaim := { program := "ythlblpihhcginaa", sum := "1e60d0ad1e6b04e454da5efb27c180c1f687fe08fcd05a27772cfbabfa53e605", func := "loop.example/g00671/laws.FnExactPutVar", spec := "fnExactPutVar", apart := false, narrowed := true }
def FnExactPutVarUptoSaid : Prop := fnExactPutVarUptoRow.holds Try.pinned (OpenSpec.upto fnExactPutVarSpec)

/-- 'laws.FnExactPutFix', WHERE WHAT IT READS IS OF BULK AT MOST 1048576: true; the input reads as it did. -/
def fnExactPutFixUptoRow : OpenClaim := { program := "ythlblpihhcginaa", sum := "1e60d0ad1e6b04e454da5efb27c180c1f687fe08fcd05a27772cfbabfa53e605", func := "loop.example/g00671/laws.FnExactPutFix", spec := "fnExactPutFix", apart := false, narrowed := true }
def FnExactPutFixUptoSaid : Prop := fnExactPutFixUptoRow.holds Try.pinned (OpenSpec.upto fnExactPutFixSpec)

/-- 'laws.FnExactGetVar', WHERE WHAT IT READS IS OF BULK AT MOST 1048576: true; the input reads as it did. -/
def fnExactGetVarUptoRow : OpenClaim := { program := "ythlblpihhcginaa", sum := "1e60d0ad1e6b04e454da5efb27c180c1f687fe08fcd05a27772cfbabfa53e605", func := "loop.example/g00671/laws.FnExactGetVar", spec := "fnExactGetVar", apart := false, narrowed := true }
def FnExactGetVarUptoSaid : Prop := fnExactGetVarUptoRow.holds Try.pinned (OpenSpec.upto fnExactGetVarSpec)

end Rows
end Go.Proofs.Ythlblpihhcginaa
