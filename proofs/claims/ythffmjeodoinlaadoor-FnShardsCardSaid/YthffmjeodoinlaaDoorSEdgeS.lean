/- Rows of the struct SEdge: its cells, toX, eqX, toXS, eqXS, szXS of the statements. -/
import Derived.Test.YthffmjeodoinlaaDoorTySEdge
import Derived.Test.YthffmjeodoinlaaDoorRowS
import Derived.Test.YthffmjeodoinlaaDoorKeep
namespace Go.Proofs.YthffmjeodoinlaaDoor
open Go.RowKit
def atSEdge (xs : List SEdgeR) (j : Nat) : SEdgeR := xs.getD j ⟨0, 0, 0, 0, 0⟩
theorem atSEdge_eq (xs : List SEdgeR) (j : Nat) (h : j < xs.length) : atSEdge xs j = xs[j] := by simp [atSEdge, List.getD, h]
theorem lenSEdge : ∀ x : SEdgeR, (encSEdge x).length = 5 := fun _ => rfl
/-- The cells of a row, in the walk's own spelling. -/
theorem Rd.rowSEdge {w : World} {a : Option Addr} {n cap : Nat} {xs : List SEdgeR} (h : Rd encSEdge 5 w a n cap xs) (hn : 0 < n) :
    ∃ b off, a = some ⟨b, off, none⟩ ∧ b < w.heap.size ∧ ∀ j, j < n → w.cell? ⟨b, off + j * 5, none⟩ = some (.int .i64 (atSEdge xs j).fr) ∧ w.cell? ⟨b, off + j * 5 + 1, none⟩ = some (.int .i64 (atSEdge xs j).to) ∧ w.cell? ⟨b, off + j * 5 + 2, none⟩ = some (.int .i64 (atSEdge xs j).wt) ∧ w.cell? ⟨b, off + j * 5 + 3, none⟩ = some (.int .i64 (atSEdge xs j).ix) ∧ w.cell? ⟨b, off + j * 5 + 4, none⟩ = some (.int .i64 (atSEdge xs j).val) := by
  obtain ⟨b, off, ha, hl, hc⟩ := h.spot hn
  refine ⟨b, off, ha, hl, fun j hj => ?_⟩
  have hj' : j < xs.length := by rw [h.len]; exact hj
  rw [atSEdge_eq xs j hj']
  exact ⟨hc j hj' 0 (.int .i64 xs[j].fr) rfl, hc j hj' 1 (.int .i64 xs[j].to) rfl, hc j hj' 2 (.int .i64 xs[j].wt) rfl, hc j hj' 3 (.int .i64 xs[j].ix) rfl, hc j hj' 4 (.int .i64 xs[j].val) rfl⟩
theorem infoSEdge : (Tryd.prog.info? 60).map (fun i => (i.zero, i.size, i.bytes)) = some (some (.agg #[.int .i64 0, .int .i64 0, .int .i64 0, .int .i64 0, .int .i64 0]), 5, 40) := by kernel_rfl
theorem take_succSEdge {xs ys : List SEdgeR} {k : Nat} (h : xs.take k = ys.take k) (h1 : k < xs.length) (h2 : k < ys.length) (he : atSEdge xs k = atSEdge ys k) : xs.take (k + 1) = ys.take (k + 1) := by
  rw [List.take_succ_eq_append_getElem h1, List.take_succ_eq_append_getElem h2, h]
  rw [atSEdge_eq xs k h1, atSEdge_eq ys k h2] at he
  rw [he]
end Go.Proofs.YthffmjeodoinlaaDoor
