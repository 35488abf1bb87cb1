/- The helpers markIntS, heldIntS of the statements: what each call does. -/
import Derived.Test.YtgkgbpgnbnledaaDoorRows
import Derived.Test.YtgkgbpgnbnledaaDoorOwn
namespace Go.Proofs.YtgkgbpgnbnledaaDoor
open Go.RowKit

end Go.Proofs.YtgkgbpgnbnledaaDoor
