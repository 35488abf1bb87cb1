/- Two closed facts on the program that each row's step uses. -/
import Derived.Test.YtgkgbpgnbnledaaDoorRows
import Derived.ProofKit
namespace Go.Proofs.YtgkgbpgnbnledaaDoor
theorem own : ownKnob Tryd.prog.godebug = none := by kernel_rfl
theorem laidOut : laidOutB Tryd.prog = true := by kernel_rfl
end Go.Proofs.YtgkgbpgnbnledaaDoor
