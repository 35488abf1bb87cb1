/- The struct Rec as data: its cells, and what the form's reading of it gives. -/
import Derived.Test.YthffmjeodoinlaaDoorRows
import Derived.Test.YthffmjeodoinlaaDoorOpen
namespace Go.Proofs.YthffmjeodoinlaaDoor
open Go.ChangeShapes Go.WideShapes Go.ChangeAt Go.RowKit Go.Deep
structure RecR where
  a : Int
  b : Int
  c : Int
deriving DecidableEq
def encRec (r : RecR) : List Value := [.int .i64 r.a, .int .i64 r.b, .int .i64 r.c]
def goodRec (_w : World) (r : RecR) : Prop := (In64 r.a) ∧ (In64 r.b) ∧ (In64 r.c)
theorem goodRec_below {w w' : World} {r : RecR} (h : goodRec w r) {B : Nat} (_hb : Below B w w') (_hB : w.heap.size ≤ B) : goodRec w' r := ⟨h.1, h.2.1, h.2.2⟩
end Go.Proofs.YthffmjeodoinlaaDoor
