/- The helpers toIntS, eqIntS, markIntS, heldIntS of the statements: what each call does. -/
import Derived.Test.YtgkgbpgnbnledaaDoorRows
import Derived.Test.YtgkgbpgnbnledaaDoorOwn
namespace Go.Proofs.YtgkgbpgnbnledaaDoor
open Go.RowKit
theorem infoIntS : (Tryd.prog.info? 3).map (fun i => (i.zero, i.size, i.bytes)) = some (some (.int .i64 0), 1, 8) := by kernel_rfl

end Go.Proofs.YtgkgbpgnbnledaaDoor
