/- The kind Graph. -/
import Derived.Test.YtifaekkbdmcehaaGraphU
import Derived.Test.YtifaekkbdmcehaaEdgeM
namespace Go.Proofs.Ytifaekkbdmcehaa
open Go.RowKit
def rdGraph (w : World) (y : GraphR) : Prop := Rd encEdge 3 w y.edgesA y.edgesN y.edgesC y.edges
theorem rdGraph_below {w w' : World} {y : GraphR} (h : rdGraph w y) {B : Nat} (hb : Below B w w') (hB : w.heap.size ≤ B) : rdGraph w' y := Rd.below h hb hB
theorem OwnGraph.rd {lo hi : Nat} {w : World} {y : GraphR} (h : OwnGraph lo hi w y) : rdGraph w y := h.row.rd lenEdge

def cntGraph (y : GraphR) : Nat := 3 * y.edgesN
theorem cntGraph_le {y : GraphR} {b : Nat} (h : bulkGraph y ≤ b) : cntGraph y ≤ 1000 * b := by unfold bulkGraph at h; unfold cntGraph; omega
theorem cntGraph_own {lo hi : Nat} {w : World} {y : GraphR} {b : Nat} (_h : OwnGraph lo hi w y) (hb : bulkGraph y ≤ b) : cntGraph y ≤ 1000 * b := cntGraph_le hb
def HeldGraph (k : Int) (w : World) (y : GraphR) : Prop := y.edgesN ≤ 1048576 ∧ Rd encEdge 3 w y.edgesA y.edgesN y.edgesC (mksEdge k y.edgesN)
theorem HeldGraph.below {k : Int} {w w' : World} {y : GraphR} (h : HeldGraph k w y) (hb : Below w.heap.size w w') : HeldGraph k w' y := ⟨h.1, h.2.below hb (Nat.le_refl _)⟩
theorem goodGraph_rd {w : World} {y : GraphR} (g : goodGraph w y) : rdGraph w y := g.2.1
theorem markGraph_k (y : GraphR) (k : Int) (lo hi : Nat) (w : World) (h : OwnGraph lo hi w y) (hn : bulkGraph y ≤ 1048576) (hk0 : 0 ≤ k) (hk1 : k ≤ 2305843009213693952) :
    Calls Try.prog 31 #[.agg #[.int .i64 y.n, .slice y.edgesA y.edgesN y.edgesC], .int .i64 k] w fun e w' => e = .returned (.int .i64 (k + cntGraph y)) ∧ HeldGraph k w' y ∧ Win lo hi w w' := by
  have hn' : y.edgesN ≤ 1048576 := by unfold bulkGraph at hn; omega
  refine (markGraph_u y k lo hi w h hn' hk0 hk1).mono ?_
  rintro e w' ⟨rfl, ho, hw⟩
  exact ⟨ret_i (by unfold cntGraph; omega), ⟨hn', ho.rd lenEdge⟩, hw⟩
theorem heldGraph_k (y : GraphR) (k : Int) (w : World) (h : HeldGraph k w y) (hk0 : 0 ≤ k) (hk1 : k ≤ 2305843009213693952) :
    Calls Try.prog 57 #[.agg #[.int .i64 y.n, .slice y.edgesA y.edgesN y.edgesC], .int .i64 k] w fun e w' => e = .returned (.int .i64 (k + cntGraph y)) ∧ Below w.heap.size w w' := by
  have hn' := h.1
  refine (heldGraph_u y k w h.2 hn' hk0 hk1).mono ?_
  rintro e w' ⟨rfl, hb⟩
  exact ⟨ret_i (by unfold cntGraph; omega), hb⟩
end Go.Proofs.Ytifaekkbdmcehaa
