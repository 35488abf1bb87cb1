/- The struct Frame as data: its cells, and what the form's reading of it gives. -/
import Derived.Test.YtkgalkaafocnjaaRows
import Derived.Test.YtkgalkaafocnjaaOpen
namespace Go.Proofs.Ytkgalkaafocnjaa
open Go.ChangeShapes Go.WideShapes Go.ChangeAt Go.RowKit Go.Deep
structure FrameR where
  kind : Int
  dataA : Option Addr
  dataN : Nat
  dataC : Nat
  data : List Int
def encFrame (r : FrameR) : List Value := [.int .i64 r.kind, .slice r.dataA r.dataN r.dataC]
def goodFrame (w : World) (r : FrameR) : Prop := (In64 r.kind) ∧ (Rd (encI .u8) 1 w r.dataA r.dataN r.dataC r.data ∧ ∀ y ∈ r.data, In8 y)
theorem opFrame {H : Type} {enc : TypeId × Value → H} {w : World} {base : Nat} {spare : Nat → Bool} {held : Bool} (n : Nat) (cs : List Value) (x : DataW H × List MemPlace) (h : DataW.trod enc Try.prog w base spare held n 40 cs = some x) :
    ∃ y : FrameR, cs = encFrame y ∧ goodFrame w y := by
  obtain ⟨hl, hf⟩ := op_st Try.underlying40 (by kernel_rfl) (by kernel_rfl) h
  obtain ⟨c0, c1, rfl⟩ : ∃ c0 c1, cs = [c0, c1] := by
    match cs, hl with
    | [c0, c1], _ => exact ⟨c0, c1, rfl⟩
  obtain ⟨n0, v0, y0, hv0, ht0⟩ := hf 0 _ rfl
  obtain rfl : c0 = v0 := by simpa using hv0
  obtain ⟨z0, e0, g0⟩ := op_i64 Try.underlying3 n0 _ _ ht0
  obtain rfl : c0 = .int .i64 z0 := by simpa [encI] using e0
  obtain ⟨n1, v1, y1, hv1, ht1⟩ := hf 1 _ rfl
  obtain rfl : c1 = v1 := by simpa using hv1
  obtain ⟨a1, m1, k1, z1, e1, g1⟩ := op_sl (sz := 1) Try.underlying22 (by kernel_rfl) (by decide) (op_u8 Try.underlying5) n1 _ _ ht1
  obtain rfl : c1 = .slice a1 m1 k1 := by simpa using e1
  exact ⟨⟨z0, a1, m1, k1, z1⟩, rfl, g0, g1⟩
theorem goodFrame_below {w w' : World} {r : FrameR} (h : goodFrame w r) {B : Nat} (hb : Below B w w') (hB : w.heap.size ≤ B) : goodFrame w' r := ⟨h.1, ⟨h.2.1.below hb hB, h.2.2⟩⟩
end Go.Proofs.Ytkgalkaafocnjaa
