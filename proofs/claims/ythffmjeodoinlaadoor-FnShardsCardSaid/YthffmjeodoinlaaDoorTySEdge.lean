/- The struct SEdge as data: its cells, and what the form's reading of it gives. -/
import Derived.Test.YthffmjeodoinlaaDoorRows
import Derived.Test.YthffmjeodoinlaaDoorOpen
namespace Go.Proofs.YthffmjeodoinlaaDoor
open Go.ChangeShapes Go.WideShapes Go.ChangeAt Go.RowKit Go.Deep
structure SEdgeR where
  fr : Int
  to : Int
  wt : Int
  ix : Int
  val : Int
deriving DecidableEq
def encSEdge (r : SEdgeR) : List Value := [.int .i64 r.fr, .int .i64 r.to, .int .i64 r.wt, .int .i64 r.ix, .int .i64 r.val]
def goodSEdge (_w : World) (r : SEdgeR) : Prop := (In64 r.fr) ∧ (In64 r.to) ∧ (In64 r.wt) ∧ (In64 r.ix) ∧ (In64 r.val)
theorem goodSEdge_below {w w' : World} {r : SEdgeR} (h : goodSEdge w r) {B : Nat} (_hb : Below B w w') (_hB : w.heap.size ≤ B) : goodSEdge w' r := ⟨h.1, h.2.1, h.2.2.1, h.2.2.2.1, h.2.2.2.2⟩
end Go.Proofs.YthffmjeodoinlaaDoor
