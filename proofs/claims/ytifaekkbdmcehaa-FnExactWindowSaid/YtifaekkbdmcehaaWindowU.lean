/- Window in the form that the law's walk uses. -/
import Derived.Test.YtifaekkbdmcehaaShardU
import Derived.Test.YtifaekkbdmcehaaWindow
namespace Go.Proofs.Ytifaekkbdmcehaa
open Go.RowKit
theorem window_spec_u (y : ShardR) (D : Int × Int × List SEdgeR) (hD : datShard y = D) (a b : Int) (w : World) (g : goodShard w y) :
    Calls Try.prog 36 #[.agg #[.int .i64 y.lo, .int .i64 y.hi, .slice y.edgesA y.edgesN y.edgesC], .int .i64 a, .int .i64 b] w fun e w' => e = .returned (.tuple #[.int .i64 (windowF D.1 D.2.1 D.2.2 a b).1, .int .i64 (windowF D.1 D.2.1 D.2.2 a b).2]) ∧ Below w.heap.size w w' := by
  subst hD
  exact window_spec _ _ _ _ _ _ _ _ _ g.2.2.1
theorem window_impl_u (y : ShardR) (D : Int × Int × List SEdgeR) (hD : datShard y = D) (a b : Int) (w : World) (g : goodShard w y) :
    Calls Try.prog 37 #[.agg #[.int .i64 y.lo, .int .i64 y.hi, .slice y.edgesA y.edgesN y.edgesC], .int .i64 a, .int .i64 b] w fun e w' => e = .returned (.tuple #[.int .i64 (windowF D.1 D.2.1 D.2.2 a b).1, .int .i64 (windowF D.1 D.2.1 D.2.2 a b).2]) ∧ Below w.heap.size w w' := by
  subst hD
  exact window_impl _ _ _ _ _ _ _ _ _ g.2.2.1
end Go.Proofs.Ytifaekkbdmcehaa
