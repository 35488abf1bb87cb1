/- The struct Edge as data: its cells, and what the form's reading of it gives. -/
import Derived.Test.YtgkgbpgnbnledaaDoorRows
import Derived.Test.YtgkgbpgnbnledaaDoorOpen
namespace Go.Proofs.YtgkgbpgnbnledaaDoor
open Go.ChangeShapes Go.WideShapes Go.ChangeAt Go.RowKit Go.Deep
structure EdgeR where
  fr : Int
  to : Int
  wt : Int
deriving DecidableEq
def encEdge (r : EdgeR) : List Value := [.int .i64 r.fr, .int .i64 r.to, .int .i64 r.wt]
def goodEdge (_w : World) (r : EdgeR) : Prop := (In64 r.fr) ∧ (In64 r.to) ∧ (In64 r.wt)
theorem opEdge {H : Type} {enc : TypeId × Value → H} {w : World} {base : Nat} {spare : Nat → Bool} {held : Bool} (n : Nat) (cs : List Value) (x : DataW H × List MemPlace) (h : DataW.trod enc Tryd.prog w base spare held n 83 cs = some x) :
    ∃ y : EdgeR, cs = encEdge y ∧ goodEdge w y := by
  obtain ⟨hl, hf⟩ := op_st Tryd.underlying83 (by kernel_rfl) (by kernel_rfl) h
  obtain ⟨c0, c1, c2, rfl⟩ : ∃ c0 c1 c2, cs = [c0, c1, c2] := by
    match cs, hl with
    | [c0, c1, c2], _ => exact ⟨c0, c1, c2, rfl⟩
  obtain ⟨n0, v0, y0, hv0, ht0⟩ := hf 0 _ rfl
  obtain rfl : c0 = v0 := by simpa using hv0
  obtain ⟨z0, e0, g0⟩ := op_i64 Tryd.underlying3 n0 _ _ ht0
  obtain rfl : c0 = .int .i64 z0 := by simpa [encI] using e0
  obtain ⟨n1, v1, y1, hv1, ht1⟩ := hf 1 _ rfl
  obtain rfl : c1 = v1 := by simpa using hv1
  obtain ⟨z1, e1, g1⟩ := op_i64 Tryd.underlying3 n1 _ _ ht1
  obtain rfl : c1 = .int .i64 z1 := by simpa [encI] using e1
  obtain ⟨n2, v2, y2, hv2, ht2⟩ := hf 2 _ rfl
  obtain rfl : c2 = v2 := by simpa using hv2
  obtain ⟨z2, e2, g2⟩ := op_i64 Tryd.underlying3 n2 _ _ ht2
  obtain rfl : c2 = .int .i64 z2 := by simpa [encI] using e2
  exact ⟨⟨z0, z1, z2⟩, rfl, g0, g1, g2⟩
theorem goodEdge_below {w w' : World} {r : EdgeR} (h : goodEdge w r) {B : Nat} (_hb : Below B w w') (_hB : w.heap.size ≤ B) : goodEdge w' r := ⟨h.1, h.2.1, h.2.2⟩
end Go.Proofs.YtgkgbpgnbnledaaDoor
