/- GraphOk in the form that the law's walk uses. -/
import Derived.Test.YtgkgbpgnbnledaaDoorGraphU
import Derived.Test.YtgkgbpgnbnledaaDoorGraphOk
namespace Go.Proofs.YtgkgbpgnbnledaaDoor
open Go.RowKit
theorem graphOk_spec_u (y : GraphR) (D : Int × List EdgeR) (hD : datGraph y = D) (w : World) (g : goodGraph w y) :
    Calls Tryd.prog 46 #[.agg #[.int .i64 y.n, .slice y.edgesA y.edgesN y.edgesC]] w fun e w' => e = .returned (.bool (graphB D.1 D.2)) ∧ Below w.heap.size w w' := by
  subst hD
  exact graphOk_spec _ _ _ _ _ _ g.2.1
theorem graphOk_impl_u (y : GraphR) (D : Int × List EdgeR) (hD : datGraph y = D) (w : World) (g : goodGraph w y) :
    Calls Tryd.prog 31 #[.agg #[.int .i64 y.n, .slice y.edgesA y.edgesN y.edgesC]] w fun e w' => e = .returned (.bool (graphB D.1 D.2)) ∧ Below w.heap.size w w' := by
  subst hD
  exact graphOk_impl _ _ _ _ _ _ g.2.1
end Go.Proofs.YtgkgbpgnbnledaaDoor
