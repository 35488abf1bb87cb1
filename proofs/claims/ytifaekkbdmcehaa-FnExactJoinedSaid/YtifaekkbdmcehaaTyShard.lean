/- The struct Shard as data: its cells, and what the form's reading of it gives. -/
import Derived.Test.YtifaekkbdmcehaaRows
import Derived.Test.YtifaekkbdmcehaaOpen
import Derived.Test.YtifaekkbdmcehaaTySEdge
namespace Go.Proofs.Ytifaekkbdmcehaa
open Go.ChangeShapes Go.WideShapes Go.ChangeAt Go.RowKit Go.Deep
structure ShardR where
  lo : Int
  hi : Int
  edgesA : Option Addr
  edgesN : Nat
  edgesC : Nat
  edges : List SEdgeR
def encShard (r : ShardR) : List Value := [.int .i64 r.lo, .int .i64 r.hi, .slice r.edgesA r.edgesN r.edgesC]
def goodShard (w : World) (r : ShardR) : Prop := (In64 r.lo) ∧ (In64 r.hi) ∧ (Rd encSEdge 5 w r.edgesA r.edgesN r.edgesC r.edges ∧ ∀ y ∈ r.edges, (goodSEdge w) y)
theorem opShard {H : Type} {enc : TypeId × Value → H} {w : World} {base : Nat} {spare : Nat → Bool} {held : Bool} (n : Nat) (cs : List Value) (x : DataW H × List MemPlace) (h : DataW.trod enc Try.prog w base spare held n 42 cs = some x) :
    ∃ y : ShardR, cs = encShard y ∧ goodShard w y := by
  obtain ⟨hl, hf⟩ := op_st Try.underlying42 (by kernel_rfl) (by kernel_rfl) h
  obtain ⟨c0, c1, c2, rfl⟩ : ∃ c0 c1 c2, cs = [c0, c1, c2] := by
    match cs, hl with
    | [c0, c1, c2], _ => exact ⟨c0, c1, c2, rfl⟩
  obtain ⟨n0, v0, y0, hv0, ht0⟩ := hf 0 _ rfl
  obtain rfl : c0 = v0 := by simpa using hv0
  obtain ⟨z0, e0, g0⟩ := op_i64 Try.underlying3 n0 _ _ ht0
  obtain rfl : c0 = .int .i64 z0 := by simpa [encI] using e0
  obtain ⟨n1, v1, y1, hv1, ht1⟩ := hf 1 _ rfl
  obtain rfl : c1 = v1 := by simpa using hv1
  obtain ⟨z1, e1, g1⟩ := op_i64 Try.underlying3 n1 _ _ ht1
  obtain rfl : c1 = .int .i64 z1 := by simpa [encI] using e1
  obtain ⟨n2, v2, y2, hv2, ht2⟩ := hf 2 _ rfl
  obtain rfl : c2 = v2 := by simpa using hv2
  obtain ⟨a2, m2, k2, z2, e2, g2⟩ := op_sl (sz := 5) Try.underlying40 (by kernel_rfl) (by decide) opSEdge n2 _ _ ht2
  obtain rfl : c2 = .slice a2 m2 k2 := by simpa using e2
  exact ⟨⟨z0, z1, a2, m2, k2, z2⟩, rfl, g0, g1, g2⟩
theorem goodShard_below {w w' : World} {r : ShardR} (h : goodShard w r) {B : Nat} (hb : Below B w w') (hB : w.heap.size ≤ B) : goodShard w' r := ⟨h.1, h.2.1, ⟨h.2.2.1.below hb hB, fun y hy => goodSEdge_below (h.2.2.2 y hy) hb hB⟩⟩
end Go.Proofs.Ytifaekkbdmcehaa
