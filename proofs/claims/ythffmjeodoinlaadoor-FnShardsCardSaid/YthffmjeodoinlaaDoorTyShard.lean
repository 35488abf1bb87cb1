/- The struct Shard as data: its cells, and what the form's reading of it gives. -/
import Derived.Test.YthffmjeodoinlaaDoorRows
import Derived.Test.YthffmjeodoinlaaDoorOpen
import Derived.Test.YthffmjeodoinlaaDoorTySEdge
namespace Go.Proofs.YthffmjeodoinlaaDoor
open Go.ChangeShapes Go.WideShapes Go.ChangeAt Go.RowKit Go.Deep
structure ShardR where
  lo : Int
  hi : Int
  edgesA : Option Addr
  edgesN : Nat
  edgesC : Nat
  edges : List SEdgeR
def encShard (r : ShardR) : List Value := [.int .i64 r.lo, .int .i64 r.hi, .slice r.edgesA r.edgesN r.edgesC]
def goodShard (w : World) (r : ShardR) : Prop := (In64 r.lo) ∧ (In64 r.hi) ∧ (Rd encSEdge 5 w r.edgesA r.edgesN r.edgesC r.edges ∧ ∀ y ∈ r.edges, (goodSEdge w) y)
theorem goodShard_below {w w' : World} {r : ShardR} (h : goodShard w r) {B : Nat} (hb : Below B w w') (hB : w.heap.size ≤ B) : goodShard w' r := ⟨h.1, h.2.1, ⟨h.2.2.1.below hb hB, fun y hy => goodSEdge_below (h.2.2.2 y hy) hb hB⟩⟩
end Go.Proofs.YthffmjeodoinlaaDoor
