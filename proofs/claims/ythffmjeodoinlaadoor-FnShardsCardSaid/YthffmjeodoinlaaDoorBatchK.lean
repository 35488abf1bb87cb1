/- The kind Batch. -/
import Derived.Test.YthffmjeodoinlaaDoorBatchU
namespace Go.Proofs.YthffmjeodoinlaaDoor
open Go.RowKit
def rdBatch (w : World) (y : BatchR) : Prop := Rd encRec 3 w y.recsA y.recsN y.recsC y.recs
theorem rdBatch_below {w w' : World} {y : BatchR} (h : rdBatch w y) {B : Nat} (hb : Below B w w') (hB : w.heap.size ≤ B) : rdBatch w' y := Rd.below h hb hB
theorem OwnBatch.rd {lo hi : Nat} {w : World} {y : BatchR} (h : OwnBatch lo hi w y) : rdBatch w y := h.row.rd lenRec

def cntBatch (y : BatchR) : Nat := 3 * y.recsN
theorem cntBatch_le {y : BatchR} {b : Nat} (h : bulkBatch y ≤ b) : cntBatch y ≤ 1000 * b := by unfold bulkBatch at h; unfold cntBatch; omega
theorem cntBatch_own {lo hi : Nat} {w : World} {y : BatchR} {b : Nat} (_h : OwnBatch lo hi w y) (hb : bulkBatch y ≤ b) : cntBatch y ≤ 1000 * b := cntBatch_le hb
theorem goodBatch_rd {w : World} {y : BatchR} (g : goodBatch w y) : rdBatch w y := g.1
end Go.Proofs.YthffmjeodoinlaaDoor
