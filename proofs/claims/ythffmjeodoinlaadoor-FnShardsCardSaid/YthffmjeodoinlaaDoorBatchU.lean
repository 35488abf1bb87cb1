/- Batch in the form that the laws' walks use: szX, toX, eqX, markX, heldX of the statements over a Batch of the call's own. -/
import Derived.Test.YthffmjeodoinlaaDoorTyBatch
import Derived.Test.YthffmjeodoinlaaDoorRecS
import Derived.Test.YthffmjeodoinlaaDoorRowS
namespace Go.Proofs.YthffmjeodoinlaaDoor
open Go.RowKit
def datBatch (y : BatchR) : List RecR := y.recs
def okBatch (y : BatchR) : Prop := ∀ w0 : World, ∀ z ∈ y.recs, goodRec w0 z
structure OwnBatch (lo hi : Nat) (w : World) (y : BatchR) : Prop where
  row : OwnS encRec 3 54 lo hi w y.recsA y.recsN y.recsC y.recs
  top : hi ≤ w.heap.size
theorem OwnBatch.below {lo hi : Nat} {w w' : World} {y : BatchR} (h : OwnBatch lo hi w y) (hb : Below w.heap.size w w') : OwnBatch lo hi w' y := ⟨h.row.below hb, Nat.le_trans h.top hb.size⟩
theorem OwnBatch.win {lo hi lo' hi' : Nat} {w w' : World} {y : BatchR} (h : OwnBatch lo hi w y) (hw : Win lo' hi' w w') (hd : hi' ≤ lo ∨ hi ≤ lo') : OwnBatch lo hi w' y := ⟨h.row.win hw hd, Nat.le_trans h.top hw.size⟩
theorem OwnBatch.lo_le {lo hi lo' : Nat} {w : World} {y : BatchR} (h : OwnBatch lo hi w y) (hl : lo' ≤ lo) : OwnBatch lo' hi w y := ⟨h.row.lo_le hl, h.top⟩
theorem OwnBatch.good {lo hi : Nat} {w : World} {y : BatchR} (h : OwnBatch lo hi w y) (g : okBatch y) : goodBatch w y := ⟨h.row.rd lenRec, g w⟩
theorem goodBatch_ok {w : World} {y : BatchR} (g : goodBatch w y) : okBatch y := fun _ => g.2
theorem okBatch_dat {y y' : BatchR} (g : okBatch y) (h : datBatch y' = datBatch y) : okBatch y' := by
  unfold datBatch at h
  unfold okBatch
  rw [h]
  exact g
/-- How much of the budget it takes. -/
def bulkBatch (y : BatchR) : Nat := y.recsN
end Go.Proofs.YthffmjeodoinlaaDoor
