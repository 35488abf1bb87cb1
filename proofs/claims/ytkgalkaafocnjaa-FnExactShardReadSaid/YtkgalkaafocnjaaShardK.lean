/- The kind Shard. -/
import Derived.Test.YtkgalkaafocnjaaShardU
import Derived.Test.YtkgalkaafocnjaaSEdgeM
namespace Go.Proofs.Ytkgalkaafocnjaa
open Go.RowKit
def rdShard (w : World) (y : ShardR) : Prop := Rd encSEdge 5 w y.edgesA y.edgesN y.edgesC y.edges
theorem rdShard_below {w w' : World} {y : ShardR} (h : rdShard w y) {B : Nat} (hb : Below B w w') (hB : w.heap.size ≤ B) : rdShard w' y := Rd.below h hb hB
theorem OwnShard.rd {lo hi : Nat} {w : World} {y : ShardR} (h : OwnShard lo hi w y) : rdShard w y := h.row.rd lenSEdge

def cntShard (y : ShardR) : Nat := 5 * y.edgesN
theorem cntShard_le {y : ShardR} {b : Nat} (h : bulkShard y ≤ b) : cntShard y ≤ 1000 * b := by unfold bulkShard at h; unfold cntShard; omega
theorem cntShard_own {lo hi : Nat} {w : World} {y : ShardR} {b : Nat} (_h : OwnShard lo hi w y) (hb : bulkShard y ≤ b) : cntShard y ≤ 1000 * b := cntShard_le hb
def HeldShard (k : Int) (w : World) (y : ShardR) : Prop := y.edgesN ≤ 1048576 ∧ Rd encSEdge 5 w y.edgesA y.edgesN y.edgesC (mksSEdge k y.edgesN)
theorem HeldShard.below {k : Int} {w w' : World} {y : ShardR} (h : HeldShard k w y) (hb : Below w.heap.size w w') : HeldShard k w' y := ⟨h.1, h.2.below hb (Nat.le_refl _)⟩
theorem goodShard_rd {w : World} {y : ShardR} (g : goodShard w y) : rdShard w y := g.2.2.1
theorem markShard_k (y : ShardR) (k : Int) (lo hi : Nat) (w : World) (h : OwnShard lo hi w y) (hn : bulkShard y ≤ 1048576) (hk0 : 0 ≤ k) (hk1 : k ≤ 2305843009213693952) :
    Calls Try.prog 54 #[.agg #[.int .i64 y.lo, .int .i64 y.hi, .slice y.edgesA y.edgesN y.edgesC], .int .i64 k] w fun e w' => e = .returned (.int .i64 (k + cntShard y)) ∧ HeldShard k w' y ∧ Win lo hi w w' := by
  have hn' : y.edgesN ≤ 1048576 := by unfold bulkShard at hn; omega
  refine (markShard_u y k lo hi w h hn' hk0 hk1).mono ?_
  rintro e w' ⟨rfl, ho, hw⟩
  exact ⟨ret_i (by unfold cntShard; omega), ⟨hn', ho.rd lenSEdge⟩, hw⟩
theorem heldShard_k (y : ShardR) (k : Int) (w : World) (h : HeldShard k w y) (hk0 : 0 ≤ k) (hk1 : k ≤ 2305843009213693952) :
    Calls Try.prog 57 #[.agg #[.int .i64 y.lo, .int .i64 y.hi, .slice y.edgesA y.edgesN y.edgesC], .int .i64 k] w fun e w' => e = .returned (.int .i64 (k + cntShard y)) ∧ Below w.heap.size w w' := by
  have hn' := h.1
  refine (heldShard_u y k w h.2 hn' hk0 hk1).mono ?_
  rintro e w' ⟨rfl, hb⟩
  exact ⟨ret_i (by unfold cntShard; omega), hb⟩
end Go.Proofs.Ytkgalkaafocnjaa
