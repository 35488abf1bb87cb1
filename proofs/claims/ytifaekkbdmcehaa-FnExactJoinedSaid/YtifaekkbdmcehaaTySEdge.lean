/- The struct SEdge as data: its cells, and what the form's reading of it gives. -/
import Derived.Test.YtifaekkbdmcehaaRows
import Derived.Test.YtifaekkbdmcehaaOpen
namespace Go.Proofs.Ytifaekkbdmcehaa
open Go.ChangeShapes Go.WideShapes Go.ChangeAt Go.RowKit Go.Deep
structure SEdgeR where
  fr : Int
  to : Int
  wt : Int
  ix : Int
  val : Int
deriving DecidableEq
def encSEdge (r : SEdgeR) : List Value := [.int .i64 r.fr, .int .i64 r.to, .int .i64 r.wt, .int .i64 r.ix, .int .i64 r.val]
def goodSEdge (_w : World) (r : SEdgeR) : Prop := (In64 r.fr) ∧ (In64 r.to) ∧ (In64 r.wt) ∧ (In64 r.ix) ∧ (In64 r.val)
theorem opSEdge {H : Type} {enc : TypeId × Value → H} {w : World} {base : Nat} {spare : Nat → Bool} {held : Bool} (n : Nat) (cs : List Value) (x : DataW H × List MemPlace) (h : DataW.trod enc Try.prog w base spare held n 114 cs = some x) :
    ∃ y : SEdgeR, cs = encSEdge y ∧ goodSEdge w y := by
  obtain ⟨hl, hf⟩ := op_st Try.underlying114 (by kernel_rfl) (by kernel_rfl) h
  obtain ⟨c0, c1, c2, c3, c4, rfl⟩ : ∃ c0 c1 c2 c3 c4, cs = [c0, c1, c2, c3, c4] := by
    match cs, hl with
    | [c0, c1, c2, c3, c4], _ => exact ⟨c0, c1, c2, c3, c4, rfl⟩
  obtain ⟨n0, v0, y0, hv0, ht0⟩ := hf 0 _ rfl
  obtain rfl : c0 = v0 := by simpa using hv0
  obtain ⟨z0, e0, g0⟩ := op_i64 Try.underlying3 n0 _ _ ht0
  obtain rfl : c0 = .int .i64 z0 := by simpa [encI] using e0
  obtain ⟨n1, v1, y1, hv1, ht1⟩ := hf 1 _ rfl
  obtain rfl : c1 = v1 := by simpa using hv1
  obtain ⟨z1, e1, g1⟩ := op_i64 Try.underlying3 n1 _ _ ht1
  obtain rfl : c1 = .int .i64 z1 := by simpa [encI] using e1
  obtain ⟨n2, v2, y2, hv2, ht2⟩ := hf 2 _ rfl
  obtain rfl : c2 = v2 := by simpa using hv2
  obtain ⟨z2, e2, g2⟩ := op_i64 Try.underlying3 n2 _ _ ht2
  obtain rfl : c2 = .int .i64 z2 := by simpa [encI] using e2
  obtain ⟨n3, v3, y3, hv3, ht3⟩ := hf 3 _ rfl
  obtain rfl : c3 = v3 := by simpa using hv3
  obtain ⟨z3, e3, g3⟩ := op_i64 Try.underlying3 n3 _ _ ht3
  obtain rfl : c3 = .int .i64 z3 := by simpa [encI] using e3
  obtain ⟨n4, v4, y4, hv4, ht4⟩ := hf 4 _ rfl
  obtain rfl : c4 = v4 := by simpa using hv4
  obtain ⟨z4, e4, g4⟩ := op_i64 Try.underlying3 n4 _ _ ht4
  obtain rfl : c4 = .int .i64 z4 := by simpa [encI] using e4
  exact ⟨⟨z0, z1, z2, z3, z4⟩, rfl, g0, g1, g2, g3, g4⟩
theorem goodSEdge_below {w w' : World} {r : SEdgeR} (h : goodSEdge w r) {B : Nat} (_hb : Below B w w') (_hB : w.heap.size ≤ B) : goodSEdge w' r := ⟨h.1, h.2.1, h.2.2.1, h.2.2.2.1, h.2.2.2.2⟩
end Go.Proofs.Ytifaekkbdmcehaa
