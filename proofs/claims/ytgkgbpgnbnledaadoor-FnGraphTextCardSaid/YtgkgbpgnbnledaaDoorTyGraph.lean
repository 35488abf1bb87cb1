/- The struct Graph as data: its cells, and what the form's reading of it gives. -/
import Derived.Test.YtgkgbpgnbnledaaDoorRows
import Derived.Test.YtgkgbpgnbnledaaDoorOpen
import Derived.Test.YtgkgbpgnbnledaaDoorTyEdge
namespace Go.Proofs.YtgkgbpgnbnledaaDoor
open Go.ChangeShapes Go.WideShapes Go.ChangeAt Go.RowKit Go.Deep
structure GraphR where
  n : Int
  edgesA : Option Addr
  edgesN : Nat
  edgesC : Nat
  edges : List EdgeR
def encGraph (r : GraphR) : List Value := [.int .i64 r.n, .slice r.edgesA r.edgesN r.edgesC]
def goodGraph (w : World) (r : GraphR) : Prop := (In64 r.n) ∧ (Rd encEdge 3 w r.edgesA r.edgesN r.edgesC r.edges ∧ ∀ y ∈ r.edges, (goodEdge w) y)
theorem opGraph {H : Type} {enc : TypeId × Value → H} {w : World} {base : Nat} {spare : Nat → Bool} {held : Bool} (n : Nat) (cs : List Value) (x : DataW H × List MemPlace) (h : DataW.trod enc Tryd.prog w base spare held n 31 cs = some x) :
    ∃ y : GraphR, cs = encGraph y ∧ goodGraph w y := by
  obtain ⟨hl, hf⟩ := op_st Tryd.underlying31 (by kernel_rfl) (by kernel_rfl) h
  obtain ⟨c0, c1, rfl⟩ : ∃ c0 c1, cs = [c0, c1] := by
    match cs, hl with
    | [c0, c1], _ => exact ⟨c0, c1, rfl⟩
  obtain ⟨n0, v0, y0, hv0, ht0⟩ := hf 0 _ rfl
  obtain rfl : c0 = v0 := by simpa using hv0
  obtain ⟨z0, e0, g0⟩ := op_i64 Tryd.underlying3 n0 _ _ ht0
  obtain rfl : c0 = .int .i64 z0 := by simpa [encI] using e0
  obtain ⟨n1, v1, y1, hv1, ht1⟩ := hf 1 _ rfl
  obtain rfl : c1 = v1 := by simpa using hv1
  obtain ⟨a1, m1, k1, z1, e1, g1⟩ := op_sl (sz := 3) Tryd.underlying29 (by kernel_rfl) (by decide) opEdge n1 _ _ ht1
  obtain rfl : c1 = .slice a1 m1 k1 := by simpa using e1
  exact ⟨⟨z0, a1, m1, k1, z1⟩, rfl, g0, g1⟩
theorem goodGraph_below {w w' : World} {r : GraphR} (h : goodGraph w r) {B : Nat} (hb : Below B w w') (hB : w.heap.size ≤ B) : goodGraph w' r := ⟨h.1, ⟨h.2.1.below hb hB, fun y hy => goodEdge_below (h.2.2 y hy) hb hB⟩⟩
end Go.Proofs.YtgkgbpgnbnledaaDoor
