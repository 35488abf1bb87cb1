/- The kind Shard. -/
import Derived.Test.YtifaekkbdmcehaaShardU
import Derived.Test.YtifaekkbdmcehaaSEdgeM
namespace Go.Proofs.Ytifaekkbdmcehaa
open Go.RowKit
def rdShard (w : World) (y : ShardR) : Prop := Rd encSEdge 5 w y.edgesA y.edgesN y.edgesC y.edges
theorem rdShard_below {w w' : World} {y : ShardR} (h : rdShard w y) {B : Nat} (hb : Below B w w') (hB : w.heap.size ≤ B) : rdShard w' y := Rd.below h hb hB
theorem OwnShard.rd {lo hi : Nat} {w : World} {y : ShardR} (h : OwnShard lo hi w y) : rdShard w y := h.row.rd lenSEdge

def cntShard (y : ShardR) : Nat := 5 * y.edgesN
theorem cntShard_le {y : ShardR} {b : Nat} (h : bulkShard y ≤ b) : cntShard y ≤ 1000 * b := by unfold bulkShard at h; unfold cntShard; omega
theorem cntShard_own {lo hi : Nat} {w : World} {y : ShardR} {b : Nat} (_h : OwnShard lo hi w y) (hb : bulkShard y ≤ b) : cntShard y ≤ 1000 * b := cntShard_le hb
def HeldShard (k : Int) (w : World) (y : ShardR) : Prop := y.edgesN ≤ 1048576 ∧ Rd encSEdge 5 w y.edgesA y.edgesN y.edgesC (mksSEdge k y.edgesN)
theorem HeldShard.below {k : Int} {w w' : World} {y : ShardR} (h : HeldShard k w y) (hb : Below w.heap.size w w') : HeldShard k w' y := ⟨h.1, h.2.below hb (Nat.le_refl _)⟩
theorem goodShard_rd {w : World} {y : ShardR} (g : goodShard w y) : rdShard w y := g.2.2.1
end Go.Proofs.Ytifaekkbdmcehaa
