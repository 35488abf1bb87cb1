/- Two closed facts on the program that each row's step uses. -/
import Derived.Test.YtoodlmhnemamhaaRows
import Derived.ProofKit
namespace Go.Proofs.Ytoodlmhnemamhaa
theorem own : ownKnob Try.prog.godebug = none := by kernel_rfl
theorem laidOut : laidOutB Try.prog = true := by kernel_rfl
end Go.Proofs.Ytoodlmhnemamhaa
