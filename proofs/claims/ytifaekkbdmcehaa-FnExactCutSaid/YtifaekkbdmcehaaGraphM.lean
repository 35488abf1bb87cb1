/- markGraph, heldGraph of the statements. -/
import Derived.Test.YtifaekkbdmcehaaGraphU
import Derived.Test.YtifaekkbdmcehaaEdgeM
namespace Go.Proofs.Ytifaekkbdmcehaa
open Go.RowKit
set_option maxHeartbeats 400000 in
theorem markGraph_u (y : GraphR) (k : Int) (lo hi : Nat) (w : World) (h : OwnGraph lo hi w y) (hn : bulkGraph y ≤ 1048576) (hk0 : 0 ≤ k) (hk1 : k ≤ 2305843009213693952) :
    Calls Try.prog 31 #[.agg #[.int .i64 y.n, .slice y.edgesA y.edgesN y.edgesC], .int .i64 k] w fun e w' => ∃ y' : GraphR, e = .returned (.int .i64 (k + 3 * bulkGraph y)) ∧ y' = ⟨y.n, y.edgesA, y.edgesN, y.edgesC, mksEdge k y.edgesN⟩ ∧ OwnGraph lo hi w' y' ∧ Win lo hi w w' := by
  unfold bulkGraph at *
  have hb0 := (Below.refl w.heap.size w).alloc (Nat.le_refl _) (.cells #[.int .i64 y.n, .slice y.edgesA y.edgesN y.edgesC] 36)
  have he := h.edges.below hb0
  obtain ⟨n, ea, en, ec, el⟩ := y
  simp only at *
  go_enter Try.func31, Try.ntmps31
  go_wp2_with fail
  refine (markEdgeS_any _ _ _ _ _ _ _ _ he (by omega) hk0 hk1).mono ?_
  rintro e w1 ⟨rfl, ho, hw⟩
  go_wp2
  go_ret
  exact ⟨_, rfl, rfl, ⟨ho, ho.top⟩, (Win.of_below hb0).trans hw⟩
set_option maxHeartbeats 400000 in
theorem heldGraph_u (y : GraphR) (k : Int) (w : World) (h : Rd encEdge 3 w y.edgesA y.edgesN y.edgesC (mksEdge k y.edgesN)) (hn : bulkGraph y ≤ 1048576) (hk0 : 0 ≤ k) (hk1 : k ≤ 2305843009213693952) :
    Calls Try.prog 57 #[.agg #[.int .i64 y.n, .slice y.edgesA y.edgesN y.edgesC], .int .i64 k] w fun e w' => e = .returned (.int .i64 (k + 3 * bulkGraph y)) ∧ Below w.heap.size w w' := by
  unfold bulkGraph at *
  have hb0 := (Below.refl w.heap.size w).alloc (Nat.le_refl _) (.cells #[.int .i64 y.n, .slice y.edgesA y.edgesN y.edgesC] 36)
  have he := h.below hb0 (Nat.le_refl _)
  obtain ⟨n, ea, en, ec, el⟩ := y
  simp only at *
  go_enter Try.func57, Try.ntmps57
  go_wp2_with fail
  refine (heldEdgeS_any _ _ _ _ _ he (by omega) hk0 hk1).mono ?_
  rintro e w1 ⟨rfl, hb⟩
  go_wp2
  go_ret
  exact ⟨rfl, hb0.trans (hb.mono (by simp))⟩
end Go.Proofs.Ytifaekkbdmcehaa
