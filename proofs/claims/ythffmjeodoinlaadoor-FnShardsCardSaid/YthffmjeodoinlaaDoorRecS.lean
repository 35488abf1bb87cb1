/- Rows of the struct Rec: its cells, toX, eqX, toXS, eqXS, szXS of the statements. -/
import Derived.Test.YthffmjeodoinlaaDoorTyRec
import Derived.Test.YthffmjeodoinlaaDoorRowS
import Derived.Test.YthffmjeodoinlaaDoorKeep
namespace Go.Proofs.YthffmjeodoinlaaDoor
open Go.RowKit
def atRec (xs : List RecR) (j : Nat) : RecR := xs.getD j ⟨0, 0, 0⟩
theorem atRec_eq (xs : List RecR) (j : Nat) (h : j < xs.length) : atRec xs j = xs[j] := by simp [atRec, List.getD, h]
theorem lenRec : ∀ x : RecR, (encRec x).length = 3 := fun _ => rfl
/-- The cells of a row, in the walk's own spelling. -/
theorem Rd.rowRec {w : World} {a : Option Addr} {n cap : Nat} {xs : List RecR} (h : Rd encRec 3 w a n cap xs) (hn : 0 < n) :
    ∃ b off, a = some ⟨b, off, none⟩ ∧ b < w.heap.size ∧ ∀ j, j < n → w.cell? ⟨b, off + j * 3, none⟩ = some (.int .i64 (atRec xs j).a) ∧ w.cell? ⟨b, off + j * 3 + 1, none⟩ = some (.int .i64 (atRec xs j).b) ∧ w.cell? ⟨b, off + j * 3 + 2, none⟩ = some (.int .i64 (atRec xs j).c) := by
  obtain ⟨b, off, ha, hl, hc⟩ := h.spot hn
  refine ⟨b, off, ha, hl, fun j hj => ?_⟩
  have hj' : j < xs.length := by rw [h.len]; exact hj
  rw [atRec_eq xs j hj']
  exact ⟨hc j hj' 0 (.int .i64 xs[j].a) rfl, hc j hj' 1 (.int .i64 xs[j].b) rfl, hc j hj' 2 (.int .i64 xs[j].c) rfl⟩
theorem infoRec : (Tryd.prog.info? 54).map (fun i => (i.zero, i.size, i.bytes)) = some (some (.agg #[.int .i64 0, .int .i64 0, .int .i64 0]), 3, 24) := by kernel_rfl
theorem take_succRec {xs ys : List RecR} {k : Nat} (h : xs.take k = ys.take k) (h1 : k < xs.length) (h2 : k < ys.length) (he : atRec xs k = atRec ys k) : xs.take (k + 1) = ys.take (k + 1) := by
  rw [List.take_succ_eq_append_getElem h1, List.take_succ_eq_append_getElem h2, h]
  rw [atRec_eq xs k h1, atRec_eq ys k h2] at he
  rw [he]
end Go.Proofs.YthffmjeodoinlaaDoor
