/- The kind BatchS: rows of Batch, each with a row of its own. -/
import Derived.Test.YthffmjeodoinlaaDoorBatchK
import Derived.Test.YthffmjeodoinlaaDoorNest
import Derived.Test.YthffmjeodoinlaaDoorKeep
namespace Go.Proofs.YthffmjeodoinlaaDoor
open Go.RowKit
def zBatch : BatchR := ⟨none, 0, 0, []⟩
def atBatch (xs : List BatchR) (j : Nat) : BatchR := xs.getD j zBatch
theorem atBatch_eq (xs : List BatchR) (j : Nat) (h : j < xs.length) : atBatch xs j = xs[j] := by simp [atBatch, List.getD, h]
theorem lenBatch : ∀ x : BatchR, (encBatch x).length = 1 := fun _ => rfl
theorem Rd.rowBatch {w : World} {a : Option Addr} {n cap : Nat} {xs : List BatchR} (h : Rd encBatch 1 w a n cap xs) (hn : 0 < n) :
    ∃ b off, a = some ⟨b, off, none⟩ ∧ b < w.heap.size ∧ ∀ j, j < n → w.cell? ⟨b, off + j, none⟩ = some (.slice (atBatch xs j).recsA (atBatch xs j).recsN (atBatch xs j).recsC) := by
  obtain ⟨b, off, ha, hl, hc⟩ := h.spot hn
  refine ⟨b, off, ha, hl, fun j hj => ?_⟩
  have hj' : j < xs.length := by rw [h.len]; exact hj
  rw [atBatch_eq xs j hj']
  simpa using hc j hj' 0 (.slice xs[j].recsA xs[j].recsN xs[j].recsC) rfl
def slBatch (x : BatchR) : Row RecR := ⟨x.recsA, x.recsN, x.recsC, x.recs⟩
def datBatchS (y : Row BatchR) : List (List RecR) := y.l.map datBatch
def rdBatchS (w : World) (y : Row BatchR) : Prop := RdN encBatch 1 encRec 3 slBatch w y
theorem rdBatchS_below {w w' : World} {y : Row BatchR} (h : rdBatchS w y) {B : Nat} (hb : Below B w w') (hB : w.heap.size ≤ B) : rdBatchS w' y := RdN.below h hb hB
structure OwnBatchS (lo hi : Nat) (w : World) (y : Row BatchR) : Prop where
  nest : OwnN encBatch 1 74 encRec 3 54 slBatch lo hi w y
theorem OwnBatchS.below {lo hi : Nat} {w w' : World} {y : Row BatchR} (h : OwnBatchS lo hi w y) (hb : Below w.heap.size w w') : OwnBatchS lo hi w' y := ⟨h.nest.below hb⟩
theorem OwnBatchS.win {lo hi lo' hi' : Nat} {w w' : World} {y : Row BatchR} (h : OwnBatchS lo hi w y) (hw : Win lo' hi' w w') (hd : hi' ≤ lo ∨ hi ≤ lo') : OwnBatchS lo hi w' y := ⟨h.nest.win hw hd⟩
theorem OwnBatchS.lo_le {lo hi lo' : Nat} {w : World} {y : Row BatchR} (h : OwnBatchS lo hi w y) (hl : lo' ≤ lo) : OwnBatchS lo' hi w y := ⟨h.nest.lo_le hl⟩
theorem OwnBatchS.rd {lo hi : Nat} {w : World} {y : Row BatchR} (h : OwnBatchS lo hi w y) : rdBatchS w y := h.nest.rd lenBatch lenRec
def preBatch (xs : List BatchR) (j : Nat) : Nat := ((xs.take j).map bulkBatch).sum
theorem preBatch_succ (xs : List BatchR) (j : Nat) (h : j < xs.length) : preBatch xs (j + 1) = preBatch xs j + bulkBatch (atBatch xs j) := by
  unfold preBatch
  rw [List.take_succ_eq_append_getElem h, atBatch_eq xs j h, List.map_append, List.sum_append]
  simp only [List.map_cons, List.map_nil, List.sum_cons, List.sum_nil, Nat.add_zero]
theorem preBatch_le (xs : List BatchR) : ∀ d j, preBatch xs j ≤ preBatch xs (j + d) := by
  intro d
  induction d with
  | zero => intro j; exact Nat.le_refl _
  | succ d ih =>
    intro j
    refine Nat.le_trans (ih j) ?_
    by_cases h : j + d < xs.length
    · rw [show j + (d + 1) = j + d + 1 from by omega, preBatch_succ xs _ h]; omega
    · unfold preBatch
      rw [List.take_of_length_le (show xs.length ≤ j + d by omega), List.take_of_length_le (show xs.length ≤ j + (d + 1) by omega)]
      exact Nat.le_refl _
theorem preBatch_top (xs : List BatchR) (j : Nat) (h : j < xs.length) : preBatch xs j + bulkBatch (atBatch xs j) ≤ preBatch xs xs.length := by
  rw [← preBatch_succ xs j h]
  have := preBatch_le xs (xs.length - (j + 1)) (j + 1)
  rw [show j + 1 + (xs.length - (j + 1)) = xs.length from by omega] at this
  exact this
def bulkBatchS (y : Row BatchR) : Nat := y.n + preBatch y.l y.l.length
end Go.Proofs.YthffmjeodoinlaaDoor
