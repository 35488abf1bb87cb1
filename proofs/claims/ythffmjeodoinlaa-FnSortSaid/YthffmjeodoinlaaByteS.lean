/- The helpers toByteS, eqByteS, markByteS, heldByteS of the statements: what each call does. -/
import Derived.Test.YthffmjeodoinlaaRows
import Derived.Test.YthffmjeodoinlaaOwn
namespace Go.Proofs.Ythffmjeodoinlaa
open Go.RowKit
theorem infoByteS : (Try.prog.info? 5).map (fun i => (i.zero, i.size, i.bytes)) = some (some (.int .u8 0), 1, 1) := by kernel_rfl

end Go.Proofs.Ythffmjeodoinlaa
