/- Two closed facts on the program that each row's step uses. -/
import Derived.Test.YthffmjeodoinlaaRows
import Derived.ProofKit
namespace Go.Proofs.Ythffmjeodoinlaa
theorem own : ownKnob Try.prog.godebug = none := by kernel_rfl
theorem laidOut : laidOutB Try.prog = true := by kernel_rfl
end Go.Proofs.Ythffmjeodoinlaa
