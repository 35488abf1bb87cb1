/- The struct Batch as data: its cells, and what the form's reading of it gives. -/
import Derived.Test.YthffmjeodoinlaaDoorRows
import Derived.Test.YthffmjeodoinlaaDoorOpen
import Derived.Test.YthffmjeodoinlaaDoorTyRec
namespace Go.Proofs.YthffmjeodoinlaaDoor
open Go.ChangeShapes Go.WideShapes Go.ChangeAt Go.RowKit Go.Deep
structure BatchR where
  recsA : Option Addr
  recsN : Nat
  recsC : Nat
  recs : List RecR
def encBatch (r : BatchR) : List Value := [.slice r.recsA r.recsN r.recsC]
def goodBatch (w : World) (r : BatchR) : Prop := (Rd encRec 3 w r.recsA r.recsN r.recsC r.recs ∧ ∀ y ∈ r.recs, (goodRec w) y)
theorem goodBatch_below {w w' : World} {r : BatchR} (h : goodBatch w r) {B : Nat} (hb : Below B w w') (hB : w.heap.size ≤ B) : goodBatch w' r := ⟨h.1.below hb hB, fun y hy => goodRec_below (h.2 y hy) hb hB⟩
end Go.Proofs.YthffmjeodoinlaaDoor
