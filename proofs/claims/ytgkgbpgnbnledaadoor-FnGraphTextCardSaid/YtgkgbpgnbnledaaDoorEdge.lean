/- GraphOk of the program and of the reference: what they compute. -/
import Derived.Test.YtgkgbpgnbnledaaDoorTyGraph
namespace Go.Proofs.YtgkgbpgnbnledaaDoor
open Go.RowKit
def edgeAt (xs : List EdgeR) (j : Nat) : EdgeR := xs.getD j ⟨0, 0, 0⟩
theorem edgeAt_eq (xs : List EdgeR) (j : Nat) (h : j < xs.length) : edgeAt xs j = xs[j] := by simp [edgeAt, List.getD, h]
/-- The cells of a row of edges, in the walk's own spelling. -/
theorem Rd.edges {w : World} {a : Option Addr} {n cap : Nat} {xs : List EdgeR} (h : Rd encEdge 3 w a n cap xs) (hn : 0 < n) :
    ∃ b off, a = some ⟨b, off, none⟩ ∧ b < w.heap.size ∧ ∀ j, j < n → w.cell? ⟨b, off + j * 3, none⟩ = some (.int .i64 (edgeAt xs j).fr) ∧ w.cell? ⟨b, off + j * 3 + 1, none⟩ = some (.int .i64 (edgeAt xs j).to) ∧ w.cell? ⟨b, off + j * 3 + 2, none⟩ = some (.int .i64 (edgeAt xs j).wt) := by
  obtain ⟨b, off, ha, hl, hc⟩ := h.spot hn
  refine ⟨b, off, ha, hl, fun j hj => ?_⟩
  have hj' : j < xs.length := by rw [h.len]; exact hj
  rw [edgeAt_eq xs j hj']
  have h0 := hc j hj' 0 (.int .i64 xs[j].fr) rfl
  exact ⟨by simpa using h0, hc j hj' 1 (.int .i64 xs[j].to) rfl, hc j hj' 2 (.int .i64 xs[j].wt) rfl⟩
def edgeB (n : Int) (e : EdgeR) : Bool := decide (0 ≤ e.fr) && decide (e.fr < n) && decide (0 ≤ e.to) && decide (e.to < n) && decide (0 ≤ e.wt) && decide (e.wt ≤ 1000)
theorem edgeB_yes {n : Int} {e : EdgeR} (h : edgeB n e = true) : 0 ≤ e.fr ∧ e.fr < n ∧ 0 ≤ e.to ∧ e.to < n ∧ 0 ≤ e.wt ∧ e.wt ≤ 1000 := by
  simp [edgeB] at h; omega
theorem edgeB_no {n : Int} {e : EdgeR} (h : edgeB n e = false) : e.fr < 0 ∨ (0 ≤ e.fr ∧ n ≤ e.fr) ∨ (0 ≤ e.fr ∧ e.fr < n ∧ e.to < 0) ∨ (0 ≤ e.fr ∧ e.fr < n ∧ 0 ≤ e.to ∧ n ≤ e.to) ∨ (0 ≤ e.fr ∧ e.fr < n ∧ 0 ≤ e.to ∧ e.to < n ∧ e.wt < 0) ∨ (0 ≤ e.fr ∧ e.fr < n ∧ 0 ≤ e.to ∧ e.to < n ∧ 0 ≤ e.wt ∧ 1000 < e.wt) := by
  simp [edgeB] at h; omega
def graphB (n : Int) (xs : List EdgeR) : Bool := decide (0 ≤ n) && decide (n ≤ 150) && decide (xs.length ≤ 400) && xs.all (edgeB n)
theorem graphB_no {n : Int} {xs : List EdgeR} {k : Nat} (h : k < xs.length) (he : edgeB n (edgeAt xs k) = false) : graphB n xs = false := by
  rw [edgeAt_eq xs k h] at he
  have : xs.all (edgeB n) = false := by
    rw [List.all_eq_false]
    exact ⟨xs[k], List.getElem_mem h, by simp [he]⟩
  simp [graphB, this]
theorem all_step {xs : List EdgeR} {f : EdgeR → Bool} {k : Nat} (h : k < xs.length) (ha : (xs.take k).all f = true) (he : f (edgeAt xs k) = true) : (xs.take (k + 1)).all f = true := by
  rw [edgeAt_eq xs k h] at he
  rw [List.take_succ_eq_append_getElem h, List.all_append, ha]
  simp [he]
end Go.Proofs.YtgkgbpgnbnledaaDoor
