/- ShardOk in the form that the law's walk uses. -/
import Derived.Test.YtifaekkbdmcehaaShardU
import Derived.Test.YtifaekkbdmcehaaShardOk
namespace Go.Proofs.Ytifaekkbdmcehaa
open Go.RowKit
theorem shardOk_spec_u (y : ShardR) (D : Int × Int × List SEdgeR) (hD : datShard y = D) (w : World) (g : goodShard w y) :
    Calls Try.prog 24 #[.agg #[.int .i64 y.lo, .int .i64 y.hi, .slice y.edgesA y.edgesN y.edgesC]] w fun e w' => e = .returned (.bool (shardB D.1 D.2.1 D.2.2)) ∧ Below w.heap.size w w' := by
  subst hD
  exact shardOk_spec _ _ _ _ _ _ _ g.2.2.1
theorem shardOk_impl_u (y : ShardR) (D : Int × Int × List SEdgeR) (hD : datShard y = D) (w : World) (g : goodShard w y) :
    Calls Try.prog 26 #[.agg #[.int .i64 y.lo, .int .i64 y.hi, .slice y.edgesA y.edgesN y.edgesC]] w fun e w' => e = .returned (.bool (shardB D.1 D.2.1 D.2.2)) ∧ Below w.heap.size w w' := by
  subst hD
  exact shardOk_impl _ _ _ _ _ _ _ g.2.2.1
end Go.Proofs.Ytifaekkbdmcehaa
