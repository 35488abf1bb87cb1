/- The helpers toIntS, eqIntS, markIntS, heldIntS of the statements: what each call does. -/
import Derived.Test.YthffmjeodoinlaaDoorRows
import Derived.Test.YthffmjeodoinlaaDoorOwn
namespace Go.Proofs.YthffmjeodoinlaaDoor
open Go.RowKit
theorem infoIntS : (Tryd.prog.info? 3).map (fun i => (i.zero, i.size, i.bytes)) = some (some (.int .i64 0), 1, 8) := by kernel_rfl

end Go.Proofs.YthffmjeodoinlaaDoor
