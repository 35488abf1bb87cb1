/- The helpers toByteS, eqByteS, markByteS, heldByteS of the statements: what each call does. -/
import Derived.Test.YtgkgbpgnbnledaaDoorRows
import Derived.Test.YtgkgbpgnbnledaaDoorOwn
namespace Go.Proofs.YtgkgbpgnbnledaaDoor
open Go.RowKit
theorem infoByteS : (Tryd.prog.info? 5).map (fun i => (i.zero, i.size, i.bytes)) = some (some (.int .u8 0), 1, 1) := by kernel_rfl

end Go.Proofs.YtgkgbpgnbnledaaDoor
