/-
  No cell of these rows narrows 'for every input' (looked for: loops, veiled, ifaces, maps, wideKeys, modest, calm, conditions, laid).
  DERIVED. THE GIVEN ROWS OF THIS SEAT. 7 by the template 'for every input the law returns true; each argument reads behind the call as it read before'; 0 by the template 'total and deterministic' (their statements: YtoodlmhnemamhaaTotals.lean).
  GIVEN WITH THE SEED: the statements are not yours to turn. If you find one false, say at which input.
  Laid BY PROGRAM, IN A SANDBOX (cutbox-rows.mjs): the forced cells as the released guide's own fill.sh prints them over the translation dc1bd686f765f8c3… (all of the seat's roots in one cut). By AI agents, Wed Nov 11 2026. No macro, syntax, notation, axiom, sorry.
-/
import Derived.Test.YtoodlmhnemamhaaChecked
import GoSem.Claim
import GoSem.ClaimJoined
import GoSem.ClaimMapViews
import Derived.JoinedTies
import Derived.KernelRfl
namespace Go.Proofs.Ytoodlmhnemamhaa
/- THE CELL 'sum', in the pinned program and in every row, IS THE sha256 OF THE DUMP (.gsa) THAT YtoodlmhnemamhaaProg.lean LOADS. Nothing in Lean hashes anything: it is a label: what it is worth is what the hold of that sum in a sandbox is worth. -/
noncomputable def Try.pinned : Pinned := { name := "ytoodlmhnemamhaa", sum := "dc1bd686f765f8c3de68ef867ba829a1b3e381e8533a6b8e65dcc350de0f0e15", checked := Try.checked }
namespace Rows
def none {H : Type} : Left H := { results := [], args := [] }

/-- 'laws.FnExactFsOpOk': WHATEVER THE INPUT: true; the input reads as it did. -/
def fnExactFsOpOkSpec : ChangeSpec := { name := "fnExactFsOpOk", fn := fun _ => fun
  | [d] => { results := [.lit (.bool true)], args := [d] }
  | _ => none }
def fnExactFsOpOkRow : OpenClaim := { program := "ytoodlmhnemamhaa", sum := "dc1bd686f765f8c3de68ef867ba829a1b3e381e8533a6b8e65dcc350de0f0e15", func := "loop.example/g00671/laws.FnExactFsOpOk", spec := "fnExactFsOpOk", apart := false }
def FnExactFsOpOkSaid : Prop := fnExactFsOpOkRow.holds Try.pinned (OpenSpec.ofChange fnExactFsOpOkSpec)

/-- ITS FALSE NEIGHBOUR: 'it returns false'. Refute it at one input. -/
def fnExactFsOpOkWrong : ChangeSpec := { name := "fnExactFsOpOk", fn := fun _ => fun
  | [d] => { results := [.lit (.bool false)], args := [d] }
  | _ => none }
def FnExactFsOpOkWrongFalsely : Prop := fnExactFsOpOkRow.holds Try.pinned (OpenSpec.ofChange fnExactFsOpOkWrong)

/-- 'laws.FnExactDiskNew': WHATEVER THE INPUT: true; the input reads as it did. -/
def fnExactDiskNewSpec : ChangeSpec := { name := "fnExactDiskNew", fn := fun _ => fun
  | [d] => { results := [.lit (.bool true)], args := [d] }
  | _ => none }
def fnExactDiskNewRow : OpenClaim := { program := "ytoodlmhnemamhaa", sum := "dc1bd686f765f8c3de68ef867ba829a1b3e381e8533a6b8e65dcc350de0f0e15", func := "loop.example/g00671/laws.FnExactDiskNew", spec := "fnExactDiskNew", apart := false }
def FnExactDiskNewSaid : Prop := fnExactDiskNewRow.holds Try.pinned (OpenSpec.ofChange fnExactDiskNewSpec)

/-- ITS FALSE NEIGHBOUR: 'it returns false'. Refute it at one input. -/
def fnExactDiskNewWrong : ChangeSpec := { name := "fnExactDiskNew", fn := fun _ => fun
  | [d] => { results := [.lit (.bool false)], args := [d] }
  | _ => none }
def FnExactDiskNewWrongFalsely : Prop := fnExactDiskNewRow.holds Try.pinned (OpenSpec.ofChange fnExactDiskNewWrong)

/-- 'laws.FnExactDiskOk': WHATEVER THE INPUT: true; the input reads as it did. -/
def fnExactDiskOkSpec : ChangeSpec := { name := "fnExactDiskOk", fn := fun _ => fun
  | [d] => { results := [.lit (.bool true)], args := [d] }
  | _ => none }
def fnExactDiskOkRow : OpenClaim := { program := "ytoodlmhnemamhaa", sum := "dc1bd686f765f8c3de68ef867ba829a1b3e381e8533a6b8e65dcc350de0f0e15", func := "loop.example/g00671/laws.FnExactDiskOk", spec := "fnExactDiskOk", apart := false }
def FnExactDiskOkSaid : Prop := fnExactDiskOkRow.holds Try.pinned (OpenSpec.ofChange fnExactDiskOkSpec)

/-- ITS FALSE NEIGHBOUR: 'it returns false'. Refute it at one input. -/
def fnExactDiskOkWrong : ChangeSpec := { name := "fnExactDiskOk", fn := fun _ => fun
  | [d] => { results := [.lit (.bool false)], args := [d] }
  | _ => none }
def FnExactDiskOkWrongFalsely : Prop := fnExactDiskOkRow.holds Try.pinned (OpenSpec.ofChange fnExactDiskOkWrong)

/-- 'laws.FnExactDiskRead': WHATEVER THE INPUT: true; the input reads as it did. -/
def fnExactDiskReadSpec : ChangeSpec := { name := "fnExactDiskRead", fn := fun _ => fun
  | [d1, d2] => { results := [.lit (.bool true)], args := [d1, d2] }
  | _ => none }
def fnExactDiskReadRow : OpenClaim := { program := "ytoodlmhnemamhaa", sum := "dc1bd686f765f8c3de68ef867ba829a1b3e381e8533a6b8e65dcc350de0f0e15", func := "loop.example/g00671/laws.FnExactDiskRead", spec := "fnExactDiskRead", apart := false }
def FnExactDiskReadSaid : Prop := fnExactDiskReadRow.holds Try.pinned (OpenSpec.ofChange fnExactDiskReadSpec)

/-- ITS FALSE NEIGHBOUR: 'it returns false'. Refute it at one input. -/
def fnExactDiskReadWrong : ChangeSpec := { name := "fnExactDiskRead", fn := fun _ => fun
  | [d1, d2] => { results := [.lit (.bool false)], args := [d1, d2] }
  | _ => none }
def FnExactDiskReadWrongFalsely : Prop := fnExactDiskReadRow.holds Try.pinned (OpenSpec.ofChange fnExactDiskReadWrong)

/-- 'laws.FnExactDiskSet': WHATEVER THE INPUT: true; the input reads as it did. -/
def fnExactDiskSetSpec : ChangeSpec := { name := "fnExactDiskSet", fn := fun _ => fun
  | [d1, d2, d3] => { results := [.lit (.bool true)], args := [d1, d2, d3] }
  | _ => none }
def fnExactDiskSetRow : OpenClaim := { program := "ytoodlmhnemamhaa", sum := "dc1bd686f765f8c3de68ef867ba829a1b3e381e8533a6b8e65dcc350de0f0e15", func := "loop.example/g00671/laws.FnExactDiskSet", spec := "fnExactDiskSet", apart := false }
def FnExactDiskSetSaid : Prop := fnExactDiskSetRow.holds Try.pinned (OpenSpec.ofChange fnExactDiskSetSpec)

/-- ITS FALSE NEIGHBOUR: 'it returns false'. Refute it at one input. -/
def fnExactDiskSetWrong : ChangeSpec := { name := "fnExactDiskSet", fn := fun _ => fun
  | [d1, d2, d3] => { results := [.lit (.bool false)], args := [d1, d2, d3] }
  | _ => none }
def FnExactDiskSetWrongFalsely : Prop := fnExactDiskSetRow.holds Try.pinned (OpenSpec.ofChange fnExactDiskSetWrong)

/-- 'laws.FnExactDiskBend': WHATEVER THE INPUT: true; the input reads as it did. -/
def fnExactDiskBendSpec : ChangeSpec := { name := "fnExactDiskBend", fn := fun _ => fun
  | [d1, d2, d3, d4] => { results := [.lit (.bool true)], args := [d1, d2, d3, d4] }
  | _ => none }
def fnExactDiskBendRow : OpenClaim := { program := "ytoodlmhnemamhaa", sum := "dc1bd686f765f8c3de68ef867ba829a1b3e381e8533a6b8e65dcc350de0f0e15", func := "loop.example/g00671/laws.FnExactDiskBend", spec := "fnExactDiskBend", apart := false }
def FnExactDiskBendSaid : Prop := fnExactDiskBendRow.holds Try.pinned (OpenSpec.ofChange fnExactDiskBendSpec)

/-- ITS FALSE NEIGHBOUR: 'it returns false'. Refute it at one input. -/
def fnExactDiskBendWrong : ChangeSpec := { name := "fnExactDiskBend", fn := fun _ => fun
  | [d1, d2, d3, d4] => { results := [.lit (.bool false)], args := [d1, d2, d3, d4] }
  | _ => none }
def FnExactDiskBendWrongFalsely : Prop := fnExactDiskBendRow.holds Try.pinned (OpenSpec.ofChange fnExactDiskBendWrong)

/-- 'laws.FnExactDiskDo': WHATEVER THE INPUT: true; the input reads as it did. -/
def fnExactDiskDoSpec : ChangeSpec := { name := "fnExactDiskDo", fn := fun _ => fun
  | [d1, d2] => { results := [.lit (.bool true)], args := [d1, d2] }
  | _ => none }
def fnExactDiskDoRow : OpenClaim := { program := "ytoodlmhnemamhaa", sum := "dc1bd686f765f8c3de68ef867ba829a1b3e381e8533a6b8e65dcc350de0f0e15", func := "loop.example/g00671/laws.FnExactDiskDo", spec := "fnExactDiskDo", apart := false }
def FnExactDiskDoSaid : Prop := fnExactDiskDoRow.holds Try.pinned (OpenSpec.ofChange fnExactDiskDoSpec)

/-- ITS FALSE NEIGHBOUR: 'it returns false'. Refute it at one input. -/
def fnExactDiskDoWrong : ChangeSpec := { name := "fnExactDiskDo", fn := fun _ => fun
  | [d1, d2] => { results := [.lit (.bool false)], args := [d1, d2] }
  | _ => none }
def FnExactDiskDoWrongFalsely : Prop := fnExactDiskDoRow.holds Try.pinned (OpenSpec.ofChange fnExactDiskDoWrong)

/- THE SECOND FORM. 'bulk': how many values and letters a reading holds, each counted each time it is reached (what is shared counts as often as it is met; a slice's spare places count too). A statement '..UptoSaid' is the law's where the arguments, and the package variables that the reading takes, are together of bulk at most 1048576: NARROWER than '..Said'. Prove '..Said' where nothing that the law and all that it calls make is longer than what came in: it says more and counts as full. Else prove '..UptoSaid'. A law counts once. -/
mutual
def uptoBulk {H : Type} : DataW H → Nat
  | .lit (.string bytes) => bytes.length + 1
  | .lit _ => 1
  | .nil => 1
  | .ptr d => uptoBulk d + 1
  | .slice elems spare => uptoBulkAll elems + uptoBulkAll spare + 1
  | .agg parts => uptoBulkAll parts + 1
  | .iface _ d => uptoBulk d + 1
  | .map entries => uptoBulkEntries entries + 1
  | .held _ => 1
def uptoBulkAll {H : Type} : List (DataW H) → Nat
  | [] => 0
  | d :: r => uptoBulk d + uptoBulkAll r
def uptoBulkEntries {H : Type} : List (Lit × DataW H) → Nat
  | [] => 0
  | x :: r => uptoBulkEntry x + uptoBulkEntries r
def uptoBulkEntry {H : Type} : Lit × DataW H → Nat
  | (.string bytes, d) => bytes.length + uptoBulk d + 1
  | (_, d) => uptoBulk d + 1
 end
def uptoSmall : (H : Type) → List (DataW H) → Bool := fun _ ds => decide (uptoBulkAll ds ≤ 1048576)
def OpenSpec.upto (s : _root_.Go.ChangeSpec) : _root_.Go.OpenSpec := { _root_.Go.OpenSpec.ofChange s with cond := some uptoSmall }

/-- 'laws.FnExactFsOpOk', WHERE WHAT IT READS IS OF BULK AT MOST 1048576: true; the input reads as it did. -/
def fnExactFsOpOkUptoRow : OpenClaim := { program := "ytoodlmhnemamhaa", sum := "dc1bd686f765f8c3de68ef867ba829a1b3e381e8533a6b8e65dcc350de0f0e15", func := "loop.example/g00671/laws.FnExactFsOpOk", spec := "fnExactFsOpOk", apart := false, narrowed := true }
def FnExactFsOpOkUptoSaid : Prop := fnExactFsOpOkUptoRow.holds Try.pinned (OpenSpec.upto fnExactFsOpOkSpec)

/-- 'laws.FnExactDiskNew', WHERE WHAT IT READS IS OF BULK AT MOST 1048576: true; the input reads as it did. -/
def fnExactDiskNewUptoRow : OpenClaim := { program := "ytoodlmhnemamhaa", sum := "dc1bd686f765f8c3de68ef867ba829a1b3e381e8533a6b8e65dcc350de0f0e15", func := "loop.example/g00671/laws.FnExactDiskNew", spec := "fnExactDiskNew", apart := false, narrowed := true }
def FnExactDiskNewUptoSaid : Prop := fnExactDiskNewUptoRow.holds Try.pinned (OpenSpec.upto fnExactDiskNewSpec)

/-- 'laws.FnExactDiskOk', WHERE WHAT IT READS IS OF BULK AT MOST 1048576: true; the input reads as it did. -/
def fnExactDiskOkUptoRow : OpenClaim := { program := "ytoodlmhnemamhaa", sum := "dc1bd686f765f8c3de68ef867ba829a1b3e381e8533a6b8e65dcc350de0f0e15", func := "loop.example/g00671/laws.FnExactDiskOk", spec := "fnExactDiskOk", apart := false, narrowed := true }
def FnExactDiskOkUptoSaid : Prop := fnExactDiskOkUptoRow.holds Try.pinned (OpenSpec.upto fnExactDiskOkSpec)

/-- 'laws.FnExactDiskRead', WHERE WHAT IT READS IS OF BULK AT MOST 1048576: true; the input reads as it did. -/
def fnExactDiskReadUptoRow : OpenClaim := { program := "ytoodlmhnemamhaa", sum := "dc1bd686f765f8c3de68ef867ba829a1b3e381e8533a6b8e65dcc350de0f0e15", func := "loop.example/g00671/laws.FnExactDiskRead", spec := "fnExactDiskRead", apart := false, narrowed := true }
def FnExactDiskReadUptoSaid : Prop := fnExactDiskReadUptoRow.holds Try.pinned (OpenSpec.upto fnExactDiskReadSpec)

/-- 'laws.FnExactDiskSet', WHERE WHAT IT READS IS OF BULK AT MOST 1048576: true; the input reads as it did. -/
def fnExactDiskSetUptoRow : OpenClaim := { program := "ytoodlmhnemamhaa", sum := "dc1bd686f765f8c3de68ef867ba829a1b3e381e8533a6b8e65dcc350de0f0e15", func := "loop.example/g00671/laws.FnExactDiskSet", spec := "fnExactDiskSet", apart := false, narrowed := true }
def FnExactDiskSetUptoSaid : Prop := fnExactDiskSetUptoRow.holds Try.pinned (OpenSpec.upto fnExactDiskSetSpec)

/-- 'laws.FnExactDiskBend', WHERE WHAT IT READS IS OF BULK AT MOST 1048576: true; the input reads as it did. -/
def fnExactDiskBendUptoRow : OpenClaim := { program := "ytoodlmhnemamhaa", sum := "dc1bd686f765f8c3de68ef867ba829a1b3e381e8533a6b8e65dcc350de0f0e15", func := "loop.example/g00671/laws.FnExactDiskBend", spec := "fnExactDiskBend", apart := false, narrowed := true }
def FnExactDiskBendUptoSaid : Prop := fnExactDiskBendUptoRow.holds Try.pinned (OpenSpec.upto fnExactDiskBendSpec)

/-- 'laws.FnExactDiskDo', WHERE WHAT IT READS IS OF BULK AT MOST 1048576: true; the input reads as it did. -/
def fnExactDiskDoUptoRow : OpenClaim := { program := "ytoodlmhnemamhaa", sum := "dc1bd686f765f8c3de68ef867ba829a1b3e381e8533a6b8e65dcc350de0f0e15", func := "loop.example/g00671/laws.FnExactDiskDo", spec := "fnExactDiskDo", apart := false, narrowed := true }
def FnExactDiskDoUptoSaid : Prop := fnExactDiskDoUptoRow.holds Try.pinned (OpenSpec.upto fnExactDiskDoSpec)

end Rows
end Go.Proofs.Ytoodlmhnemamhaa
